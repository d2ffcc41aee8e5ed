/- Contracts: the names of layers and orientations, of the program and of the reference. Condition, for the program: the tables are laid. -/
import Derived.Test.YtcckamhokdodnaaGreatDoorNums
import Derived.Test.YtcckamhokdodnaaGreatDoorVal
namespace Go.Proofs.YtcckamhokdodnaaGreatDoor
open Go.RowKit

def layN : List ByteArray := [⟨#[100, 105, 102, 102, 117, 115, 105, 111, 110]⟩, ⟨#[112, 111, 108, 121]⟩, ⟨#[99, 111, 110, 116, 97, 99, 116]⟩, ⟨#[109, 101, 116, 97, 108, 49]⟩, ⟨#[118, 105, 97]⟩, ⟨#[109, 101, 116, 97, 108, 50]⟩, ⟨#[119, 101, 108, 108]⟩, ⟨#[109, 97, 114, 107, 101, 114]⟩]
def oriN : List ByteArray := [⟨#[114, 48]⟩, ⟨#[114, 57, 48]⟩, ⟨#[114, 49, 56, 48]⟩, ⟨#[114, 50, 55, 48]⟩, ⟨#[109, 48]⟩, ⟨#[109, 57, 48]⟩, ⟨#[109, 49, 56, 48]⟩, ⟨#[109, 50, 55, 48]⟩]
/-- The name k of a list of eight; nothing outside. -/
def nameOf (l : List ByteArray) (k : Int) : ByteArray := if inB 0 k 7 = true then l.getD k.toNat ⟨#[]⟩ else ⟨#[]⟩
theorem nameOf_no {l : List ByteArray} {k : Int} (h : inB 0 k 7 = false) : nameOf l k = ⟨#[]⟩ := if_neg (by rw [h]; simp)
theorem nameOf_at {l : List ByteArray} {k : Nat} (h : k < 8) : nameOf l (k : Int) = l.getD k ⟨#[]⟩ := by
  rw [nameOf, if_pos ((inB_iff _ _ _).2 (by omega))]
  rfl
theorem getD_some {l : List ByteArray} (hl : l.length = 8) {k : Nat} (h : k < 8) : l[k]? = some (l.getD k ⟨#[]⟩) := by
  rw [List.getD_eq_getElem?_getD, List.getElem?_eq_getElem (by omega)]
  rfl
theorem size_of {l : List ByteArray} (hl : ∀ x ∈ l, x.size ≤ 9) (k : Int) : (nameOf l k).size ≤ 9 := by
  unfold nameOf
  split
  · rw [List.getD_eq_getElem?_getD]
    cases h : l[k.toNat]? with
    | none => simp [ByteArray.size]
    | some x => exact hl x (List.mem_of_getElem? h)
  · simp [ByteArray.size]
theorem lay_size (k : Int) : (nameOf layN k).size ≤ 9 := size_of (by decide) k
theorem ori_size (k : Int) : (nameOf oriN k).size ≤ 9 := size_of (by decide) k
/-- The program's tables are laid, below block B. -/
structure Env (B : Nat) (w : World) : Prop where
  tab : TabB B w
  lay : ∀ k, k < 8 → w.cell? ⟨1, k, none⟩ = some (.string (layN.getD k ⟨#[]⟩))
  ori : ∀ k, k < 8 → w.cell? ⟨0, k, none⟩ = some (.string (oriN.getD k ⟨#[]⟩))
  far : 1 < B ∧ 0 < B
theorem Env.on {B : Nat} {w w' : World} (h : Env B w) (hb : Below B w w') : Env B w' := ⟨h.tab.on hb, fun k hk => (hb.cell (p := ⟨1, k, none⟩) h.far.1).trans (h.lay k hk), fun k hk => (hb.cell (p := ⟨0, k, none⟩) h.far.2).trans (h.ori k hk), h.far⟩
theorem Env.more {B B' : Nat} {w : World} (h : Env B w) (hB : B ≤ B') : Env B' w := ⟨h.tab.more hB, h.lay, h.ori, by have := h.far; omega⟩


theorem layN_impl (B : Nat) (n : Int) (w : World) (hE : Env B w) : Calls Tryz.prog 51 #[.int .i64 n] w fun e w' => e = .returned (.string (nameOf layN n)) ∧ w = w' := by
  cases h : inB 0 n 7 with
  | false =>
    rw [nameOf_no h]
    go_enter Tryz.func51, Tryz.ntmps51
    go_wp2_with (go_at_call 29; refine (within_any _ _ _ _).mono ?_; rintro e w1 ⟨rfl, rfl⟩; rw [h])
    go_ret
    exact ⟨rfl, rfl⟩
  | true =>
    have hi := (inB_iff _ _ _).1 h
    obtain ⟨k, rfl⟩ : ∃ k : Nat, n = (k : Int) := ⟨n.toNat, by omega⟩
    have hk : k < 8 := by omega
    have hc := hE.lay k hk
    rw [nameOf_at hk]
    generalize hz : List.getD layN k ⟨#[]⟩ = z at *
    have hk0 : (0 : Int) ≤ (k : Int) := by omega
    have hk8 : (k : Int) < 8 := by omega
    clear hE hz hi
    go_enter Tryz.func51, Tryz.ntmps51
    go_wp2_with (go_at_call 29; refine (within_any _ _ _ _).mono ?_; rintro e w1 ⟨rfl, rfl⟩; rw [h])
    go_ret
    exact ⟨rfl, rfl⟩


theorem oriN_impl (B : Nat) (n : Int) (w : World) (hE : Env B w) : Calls Tryz.prog 10 #[.int .i64 n] w fun e w' => e = .returned (.string (nameOf oriN n)) ∧ w = w' := by
  cases h : inB 0 n 7 with
  | false =>
    rw [nameOf_no h]
    go_enter Tryz.func10, Tryz.ntmps10
    go_wp2_with (go_at_call 29; refine (within_any _ _ _ _).mono ?_; rintro e w1 ⟨rfl, rfl⟩; rw [h])
    go_ret
    exact ⟨rfl, rfl⟩
  | true =>
    have hi := (inB_iff _ _ _).1 h
    obtain ⟨k, rfl⟩ : ∃ k : Nat, n = (k : Int) := ⟨n.toNat, by omega⟩
    have hk : k < 8 := by omega
    have hc := hE.ori k hk
    rw [nameOf_at hk]
    generalize hz : List.getD oriN k ⟨#[]⟩ = z at *
    have hk0 : (0 : Int) ≤ (k : Int) := by omega
    have hk8 : (k : Int) < 8 := by omega
    clear hE hz hi
    go_enter Tryz.func10, Tryz.ntmps10
    go_wp2_with (go_at_call 29; refine (within_any _ _ _ _).mono ?_; rintro e w1 ⟨rfl, rfl⟩; rw [h])
    go_ret
    exact ⟨rfl, rfl⟩


theorem l16In_any (x lo hi : Int) (w : World) : Calls Tryz.prog 100 #[.int .i64 x, .int .i64 lo, .int .i64 hi] w fun e w' => e = .returned (.bool (inB lo x hi)) ∧ w = w' := by
  by_cases h1 : lo ≤ x
  · by_cases h2 : x ≤ hi
    · rw [(inB_iff lo x hi).2 ⟨h1, h2⟩]
      go_enter Tryz.func100, Tryz.ntmps100
      go_wp2
      go_ret
      exact ⟨rfl, rfl⟩
    · rw [(inB_no lo x hi).2 (fun h => h2 h.2)]
      go_enter Tryz.func100, Tryz.ntmps100
      go_wp2
      go_ret
      exact ⟨rfl, rfl⟩
  · rw [(inB_no lo x hi).2 (fun h => h1 h.1)]
    go_enter Tryz.func100, Tryz.ntmps100
    go_wp2
    go_ret
    exact ⟨rfl, rfl⟩


theorem l16Names_any (w : World) : Calls Tryz.prog 101 #[] w fun e w' => e = .returned (.slice (some ⟨w.heap.size, 0, none⟩) 8 8) ∧ w' = w.alloc (.cells #[.string ⟨#[100, 105, 102, 102, 117, 115, 105, 111, 110]⟩, .string ⟨#[112, 111, 108, 121]⟩, .string ⟨#[99, 111, 110, 116, 97, 99, 116]⟩, .string ⟨#[109, 101, 116, 97, 108, 49]⟩, .string ⟨#[118, 105, 97]⟩, .string ⟨#[109, 101, 116, 97, 108, 50]⟩, .string ⟨#[119, 101, 108, 108]⟩, .string ⟨#[109, 97, 114, 107, 101, 114]⟩] 9) := by
  go_enter Tryz.func101, Tryz.ntmps101
  go_wp2
  go_ret
  exact ⟨rfl, rfl⟩
theorem layN_cell (w : World) (k : Nat) (h : k < 8) : (w.alloc (.cells #[.string ⟨#[100, 105, 102, 102, 117, 115, 105, 111, 110]⟩, .string ⟨#[112, 111, 108, 121]⟩, .string ⟨#[99, 111, 110, 116, 97, 99, 116]⟩, .string ⟨#[109, 101, 116, 97, 108, 49]⟩, .string ⟨#[118, 105, 97]⟩, .string ⟨#[109, 101, 116, 97, 108, 50]⟩, .string ⟨#[119, 101, 108, 108]⟩, .string ⟨#[109, 97, 114, 107, 101, 114]⟩] 9)).cell? ⟨w.heap.size, k, none⟩ = some (.string (layN.getD k ⟨#[]⟩)) := by
  rw [World.cell?_alloc_new]
  match k, h with
  | 0, _ => rfl
  | 1, _ => rfl
  | 2, _ => rfl
  | 3, _ => rfl
  | 4, _ => rfl
  | 5, _ => rfl
  | 6, _ => rfl
  | 7, _ => rfl
theorem layN_spec (n : Int) (w : World) : Calls Tryz.prog 68 #[.int .i64 n] w fun e w' => e = .returned (.string (nameOf layN n)) ∧ Below w.heap.size w w' := by
  cases h : inB 0 n 7 with
  | false =>
    rw [nameOf_no h]
    go_enter Tryz.func68, Tryz.ntmps68
    go_wp2_with (go_at_call 100; refine (l16In_any _ _ _ _).mono ?_; rintro e w1 ⟨rfl, rfl⟩; rw [h])
    go_ret
    exact ⟨rfl, Below.refl _ _⟩
  | true =>
    have hi := (inB_iff _ _ _).1 h
    obtain ⟨k, rfl⟩ : ∃ k : Nat, n = (k : Int) := ⟨n.toNat, by omega⟩
    have hk : k < 8 := by omega
    have hc := layN_cell w k hk
    have b0 := (Below.refl w.heap.size w).alloc (Nat.le_refl _) (.cells #[.string ⟨#[100, 105, 102, 102, 117, 115, 105, 111, 110]⟩, .string ⟨#[112, 111, 108, 121]⟩, .string ⟨#[99, 111, 110, 116, 97, 99, 116]⟩, .string ⟨#[109, 101, 116, 97, 108, 49]⟩, .string ⟨#[118, 105, 97]⟩, .string ⟨#[109, 101, 116, 97, 108, 50]⟩, .string ⟨#[119, 101, 108, 108]⟩, .string ⟨#[109, 97, 114, 107, 101, 114]⟩] 9)
    rw [nameOf_at hk]
    generalize hz : List.getD layN k ⟨#[]⟩ = z at *
    have hk0 : (0 : Int) ≤ (k : Int) := by omega
    have hk8 : (k : Int) < 8 := by omega
    clear hz hi
    go_enter Tryz.func68, Tryz.ntmps68
    go_wp2_with (first
      | (go_at_call 100; refine (l16In_any _ _ _ _).mono ?_; rintro e w1 ⟨rfl, rfl⟩; rw [h])
      | (go_at_call 101; refine (l16Names_any _).mono ?_; rintro e w2 ⟨rfl, hw2⟩; subst hw2))
    go_ret
    exact ⟨rfl, b0⟩


theorem l15Orientations_any (w : World) : Calls Tryz.prog 102 #[] w fun e w' => e = .returned (.slice (some ⟨w.heap.size, 0, none⟩) 8 8) ∧ w' = w.alloc (.cells #[.string ⟨#[114, 48]⟩, .string ⟨#[114, 57, 48]⟩, .string ⟨#[114, 49, 56, 48]⟩, .string ⟨#[114, 50, 55, 48]⟩, .string ⟨#[109, 48]⟩, .string ⟨#[109, 57, 48]⟩, .string ⟨#[109, 49, 56, 48]⟩, .string ⟨#[109, 50, 55, 48]⟩] 9) := by
  go_enter Tryz.func102, Tryz.ntmps102
  go_wp2
  go_ret
  exact ⟨rfl, rfl⟩
theorem oriN_cell (w : World) (k : Nat) (h : k < 8) : (w.alloc (.cells #[.string ⟨#[114, 48]⟩, .string ⟨#[114, 57, 48]⟩, .string ⟨#[114, 49, 56, 48]⟩, .string ⟨#[114, 50, 55, 48]⟩, .string ⟨#[109, 48]⟩, .string ⟨#[109, 57, 48]⟩, .string ⟨#[109, 49, 56, 48]⟩, .string ⟨#[109, 50, 55, 48]⟩] 9)).cell? ⟨w.heap.size, k, none⟩ = some (.string (oriN.getD k ⟨#[]⟩)) := by
  rw [World.cell?_alloc_new]
  match k, h with
  | 0, _ => rfl
  | 1, _ => rfl
  | 2, _ => rfl
  | 3, _ => rfl
  | 4, _ => rfl
  | 5, _ => rfl
  | 6, _ => rfl
  | 7, _ => rfl
theorem oriN_spec (n : Int) (w : World) : Calls Tryz.prog 70 #[.int .i64 n] w fun e w' => e = .returned (.string (nameOf oriN n)) ∧ Below w.heap.size w w' := by
  cases h : inB 0 n 7 with
  | false =>
    rw [nameOf_no h]
    go_enter Tryz.func70, Tryz.ntmps70
    go_wp2_with (go_at_call 94; refine (l09In_any _ _ _ _).mono ?_; rintro e w1 ⟨rfl, rfl⟩; rw [h])
    go_ret
    exact ⟨rfl, Below.refl _ _⟩
  | true =>
    have hi := (inB_iff _ _ _).1 h
    obtain ⟨k, rfl⟩ : ∃ k : Nat, n = (k : Int) := ⟨n.toNat, by omega⟩
    have hk : k < 8 := by omega
    have hc := oriN_cell w k hk
    have b0 := (Below.refl w.heap.size w).alloc (Nat.le_refl _) (.cells #[.string ⟨#[114, 48]⟩, .string ⟨#[114, 57, 48]⟩, .string ⟨#[114, 49, 56, 48]⟩, .string ⟨#[114, 50, 55, 48]⟩, .string ⟨#[109, 48]⟩, .string ⟨#[109, 57, 48]⟩, .string ⟨#[109, 49, 56, 48]⟩, .string ⟨#[109, 50, 55, 48]⟩] 9)
    rw [nameOf_at hk]
    generalize hz : List.getD oriN k ⟨#[]⟩ = z at *
    have hk0 : (0 : Int) ≤ (k : Int) := by omega
    have hk8 : (k : Int) < 8 := by omega
    clear hz hi
    go_enter Tryz.func70, Tryz.ntmps70
    go_wp2_with (first
      | (go_at_call 94; refine (l09In_any _ _ _ _).mono ?_; rintro e w1 ⟨rfl, rfl⟩; rw [h])
      | (go_at_call 102; refine (l15Orientations_any _).mono ?_; rintro e w2 ⟨rfl, hw2⟩; subst hw2))
    go_ret
    exact ⟨rfl, b0⟩


end Go.Proofs.YtcckamhokdodnaaGreatDoor
