/- Plain law: sorted lists of edges whose equal neighbours are put together. No conditions. -/
import Derived.Test.YtemeegpmdhgocaaGreatEdgeM
namespace Go.Proofs.YtemeegpmdhgocaaGreat

/-- The first n elements, equal neighbours once. -/
def sqTo (l : List Ed) : Nat → List Ed
  | 0 => []
  | n + 1 => match l[n]? with
    | none => sqTo l n
    | some x => if 0 < n ∧ l[n - 1]? = some x then sqTo l n else sqTo l n ++ [x]
theorem sqTo_some {l : List Ed} {n : Nat} {x : Ed} (h : l[n]? = some x) : sqTo l (n + 1) = if 0 < n ∧ l[n - 1]? = some x then sqTo l n else sqTo l n ++ [x] := by
  rw [sqTo, h]
theorem sqTo_mem (l : List Ed) : ∀ (n : Nat) (e : Ed), e ∈ sqTo l n ↔ e ∈ l.take n
  | 0, e => by simp [sqTo]
  | n + 1, e => by
    have ih := sqTo_mem l n e
    cases h : l[n]? with
    | none =>
      rw [sqTo, h, List.take_add_one, h]
      simpa using ih
    | some x =>
      rw [sqTo_some h, List.take_add_one, h, Option.toList_some, List.mem_append, List.mem_singleton]
      split
      · rename_i hd
        rw [ih]
        constructor
        · exact .inl
        · rintro (h1 | rfl)
          · exact h1
          · rw [List.mem_take_iff_getElem]
            obtain ⟨hl, he⟩ := List.getElem?_eq_some_iff.1 hd.2
            exact ⟨n - 1, by omega, he⟩
      · rw [List.mem_append, ih, List.mem_singleton]
theorem sqTo_len (l : List Ed) : ∀ n, (sqTo l n).length ≤ n
  | 0 => by simp [sqTo]
  | n + 1 => by
    have ih := sqTo_len l n
    cases h : l[n]? with
    | none => rw [sqTo, h]; dsimp only; omega
    | some x =>
      rw [sqTo_some h]
      split
      · omega
      · rw [List.length_append, List.length_singleton]; omega
theorem sqTo_sorted (l : List Ed) (hs : l.Pairwise fun a b => edLt b a = false) : ∀ n, EdS (sqTo l n)
  | 0 => List.Pairwise.nil
  | n + 1 => by
    have ih := sqTo_sorted l hs n
    cases h : l[n]? with
    | none => rw [sqTo, h]; exact ih
    | some x =>
      rw [sqTo_some h]
      split
      · exact ih
      · rename_i hd
        refine List.pairwise_append.2 ⟨ih, List.pairwise_singleton _ _, fun a ha b hb => ?_⟩
        rw [List.mem_singleton] at hb
        subst hb
        obtain ⟨j, hj, rfl⟩ := List.mem_take_iff_getElem.1 ((sqTo_mem l n a).1 ha)
        obtain ⟨hn, hx⟩ := List.getElem?_eq_some_iff.1 h
        have hjn : j < n := by omega
        have hp := List.pairwise_iff_getElem.1 hs
        have hy : l[n - 1]'(by omega) ≠ b := fun e => hd ⟨by omega, by rw [List.getElem?_eq_getElem (by omega), e]⟩
        have h1 := hp (n - 1) n (by omega) hn (by omega)
        rw [hx] at h1
        have h2 : edLt (l[n - 1]'(by omega)) b = true := (edLt_or h1).elim (fun e => absurd e.symm hy) id
        by_cases hj2 : j = n - 1
        · subst hj2; exact h2
        · have h3 := hp j (n - 1) (by omega) (by omega) (by omega)
          rcases edLt_or h3 with e | h4
          · rw [← e]; exact h2
          · exact edLt_trans h4 h2
/-- No two neighbours are equal: all stays. -/
theorem sqTo_all {l : List Ed} : ∀ {n : Nat}, n ≤ l.length → (∀ i, 0 < i → i < n → l[i]? ≠ l[i - 1]?) → sqTo l n = l.take n
  | 0, _, _ => by simp [sqTo]
  | n + 1, hn, h => by
    have hx : l[n]? = some l[n] := List.getElem?_eq_getElem (by omega)
    rw [sqTo_some hx, if_neg, sqTo_all (by omega) fun i h0 h1 => h i h0 (by omega), List.take_add_one, hx]
    · rfl
    · rintro ⟨h0, h1⟩
      exact h n h0 (by omega) (hx.trans h1.symm)
def sqz (l : List Ed) : List Ed := sqTo l l.length
theorem sqz_mem (l : List Ed) (e : Ed) : e ∈ sqz l ↔ e ∈ l := by
  unfold sqz
  rw [sqTo_mem, List.take_length]
/-- What the program makes of the edges that lie beside a marker. -/
def srtE (l : List Ed) : List Ed := l.mergeSort fun x y => !edLt y x
theorem srtE_mem (l : List Ed) (e : Ed) : e ∈ srtE l ↔ e ∈ l := List.mem_mergeSort
theorem srtE_len (l : List Ed) : (srtE l).length = l.length := List.length_mergeSort _
theorem srtE_sorted (l : List Ed) : (srtE l).Pairwise fun a b => edLt b a = false := by
  have h := List.pairwise_mergeSort (le := fun x y => !edLt y x) (fun a b c h1 h2 => by
    simp only [Bool.not_eq_true'] at h1 h2 ⊢
    cases hca : edLt c a with
    | false => rfl
    | true =>
      rcases edLt_or h1 with rfl | h3
      · rw [h2] at hca; cases hca
      · have := edLt_trans hca h3
        rw [h2] at this; cases this) (fun a b => by
    cases h : edLt b a with
    | false => simp
    | true =>
      cases h2 : edLt a b with
      | false => simp
      | true =>
        have := edLt_trans h h2
        rw [edLt_irr] at this
        cases this) l
  exact h.imp fun h => by simpa using h
/-- The edges beside a marker. -/
noncomputable def besB (M : Gr) (e : Ed) : Bool := @decide (TouchC M e) (Classical.propDecidable _)
theorem besB_iff (M : Gr) (e : Ed) : besB M e = true ↔ TouchC M e := by unfold besB; exact @decide_eq_true_iff _ (Classical.propDecidable _)
/-- A list of edges put into a sorted list, those beside the marker. -/
noncomputable def putAllE (M : Gr) (out : List Ed) (l : List Ed) : List Ed := l.foldl (fun o e => if besB M e = true then putE o e else o) out
theorem putAllE_mem (M : Gr) : ∀ (l out : List Ed) (e : Ed), e ∈ putAllE M out l ↔ e ∈ out ∨ (e ∈ l ∧ besB M e = true)
  | [], out, e => by simp [putAllE]
  | x :: l, out, e => by
    unfold putAllE
    rw [List.foldl_cons]
    have ih := putAllE_mem M l (if besB M x = true then putE out x else out) e
    unfold putAllE at ih
    rw [ih]
    split
    · rename_i hx
      rw [putE_mem, List.mem_cons]
      constructor
      · rintro ((rfl | h) | ⟨h, h2⟩)
        · exact .inr ⟨.inl rfl, hx⟩
        · exact .inl h
        · exact .inr ⟨.inr h, h2⟩
      · rintro (h | ⟨rfl | h, h2⟩)
        · exact .inl (.inr h)
        · exact .inl (.inl rfl)
        · exact .inr ⟨h, h2⟩
    · rename_i hx
      rw [List.mem_cons]
      constructor
      · rintro (h | ⟨h, h2⟩)
        · exact .inl h
        · exact .inr ⟨.inr h, h2⟩
      · rintro (h | ⟨rfl | h, h2⟩)
        · exact .inl h
        · exact absurd h2 hx
        · exact .inr ⟨h, h2⟩
theorem putAllE_sorted (M : Gr) : ∀ (l : List Ed) {out : List Ed}, EdS out → EdS (putAllE M out l)
  | [], _, h => h
  | x :: l, out, h => by
    unfold putAllE
    rw [List.foldl_cons]
    have := putAllE_sorted M l (out := if besB M x = true then putE out x else out) (by
      split
      · exact putE_sorted x h
      · exact h)
    unfold putAllE at this
    exact this
/-- L is the list of the edges of G. -/
def EdgesOf (G : Gr) (L : List Ed) : Prop := ∀ e, e ∈ L ↔ EdgeC G e
/-- THE PLAIN LAW OF ViolationEdges. -/
theorem edges_same {M G : Gr} {L K : List Ed} (hL : EdgesOf G L) (hK : EdgesOf G K) : sqz (srtE (L.filter (besB M))) = putAllE M [] K := by
  refine eds_one (sqTo_sorted _ (srtE_sorted _) _) (putAllE_sorted M K List.Pairwise.nil) fun e => ?_
  rw [sqz_mem, srtE_mem, List.mem_filter, putAllE_mem, hL e, hK e]
  simp
theorem edges_same2 {M G H : Gr} {L K L2 K2 : List Ed} (hL : EdgesOf G L) (hK : EdgesOf G K) (hL2 : EdgesOf H L2) (hK2 : EdgesOf H K2) : sqz (srtE ((L ++ L2).filter (besB M))) = putAllE M (putAllE M [] K) K2 := by
  refine eds_one (sqTo_sorted _ (srtE_sorted _) _) (putAllE_sorted M K2 (putAllE_sorted M K List.Pairwise.nil)) fun e => ?_
  rw [sqz_mem, srtE_mem, List.mem_filter, putAllE_mem, putAllE_mem, List.mem_append, hL e, hK e, hL2 e, hK2 e]
  constructor
  · rintro ⟨h | h, h2⟩
    · exact .inl (.inr ⟨h, h2⟩)
    · exact .inr ⟨h, h2⟩
  · rintro ((h | ⟨h, h2⟩) | ⟨h, h2⟩)
    · cases h
    · exact ⟨.inl h, h2⟩
    · exact ⟨.inr h, h2⟩

end Go.Proofs.YtemeegpmdhgocaaGreat
