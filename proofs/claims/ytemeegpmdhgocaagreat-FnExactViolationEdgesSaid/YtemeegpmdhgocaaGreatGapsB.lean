/- Contract: the program's gapsBetween. No conditions. -/
import Derived.Test.YtemeegpmdhgocaaGreatGaps
import Derived.Test.YtemeegpmdhgocaaGreatUnion
namespace Go.Proofs.YtemeegpmdhgocaaGreat
open Go.RowKit

/-- What has been listed before round n. -/
def partB (A B : Gr) : Nat → List Rc
  | 0 => []
  | 1 => btwG A B false
  | _ => allBtw A B
theorem OutB.lo {w : World} {B N M : Nat} {v : Value} {rs : List Rc} (h : RL w B v rs) (hN : N = w.heap.size) : OutB v N M := fun g hg => .inl (by rw [hN]; exact (own_lt h g hg).2)
theorem GB.keptR {w w' : World} {g : Nat} {t e : TypeId} {G : Gr} {B s n : Nat} {v : Value} {xs : List Value} (h : GB w g t G) (ho : w.ownsRow B e s v n xs) (hne : t ≠ e) (hg : w.grownBy w' v.ownBlock) : GB w' g t G := by
  obtain ⟨cs, hb, hr⟩ := h
  exact ⟨cs, hb.grown hg (hb.apart' ho hne), hr⟩
theorem GB.neB {w : World} {g b : Nat} {t e : TypeId} {G : Gr} {cs : Array Value} (h : GB w g t G) (hb : Bk w b e cs) (hne : t ≠ e) : g ≠ b := by
  obtain ⟨cs', hk, _⟩ := h
  rintro rfl
  unfold Bk at hk hb
  rw [hk] at hb
  simp at hb
  exact hne hb.2
theorem Bk.neB {w : World} {g b : Nat} {t e : TypeId} {cs cs' : Array Value} (h : Bk w g t cs) (hb : Bk w b e cs') (hne : t ≠ e) : g ≠ b := by
  rintro rfl
  unfold Bk at h hb
  rw [h] at hb
  simp at hb
  exact hne hb.2
theorem GB.other2 {w : World} {g b : Nat} {t : TypeId} {G : Gr} (h : GB w g t G) (hne : g ≠ b) (x0 x1 : Value) : GB ((w.setCell ⟨b, 0, none⟩ x0).setCell ⟨b, 1, none⟩ x1) g t G := (h.other (p := ⟨b, 0, none⟩) hne x0).other (p := ⟨b, 1, none⟩) hne x1
theorem RL.other2 {w : World} {B b : Nat} {v : Value} {rs : List Rc} (h : RL w B v rs) (hne : some b ≠ v.ownBlock) (x0 x1 : Value) : RL ((w.setCell ⟨b, 0, none⟩ x0).setCell ⟨b, 1, none⟩ x1) B v rs := own_other (own_other h (p := ⟨b, 0, none⟩) (fun e => hne e.symm) x0) (p := ⟨b, 1, none⟩) (fun e => hne e.symm) x1
theorem Src.other2 {w : World} {N M b : Nat} {v : Value} {rs : List Rc} (h : Src w N M v rs) (hne : some b ≠ v.ownBlock) (x0 x1 : Value) : Src ((w.setCell ⟨b, 0, none⟩ x0).setCell ⟨b, 1, none⟩ x1) N M v rs := ⟨h.row.other2 hne x0 x1, h.hi⟩
theorem size2 (w : World) (b : Nat) (x0 x1 : Value) (b' : Nat) (x2 x3 : Value) : w.heap.size ≤ ((((w.setCell ⟨b, 0, none⟩ x0).setCell ⟨b, 1, none⟩ x1).setCell ⟨b', 0, none⟩ x2).setCell ⟨b', 1, none⟩ x3).drew.heap.size := by
  show w.heap.size ≤ ((((w.setCell ⟨b, 0, none⟩ x0).setCell ⟨b, 1, none⟩ x1).setCell ⟨b', 0, none⟩ x2).setCell ⟨b', 1, none⟩ x3).heap.size
  simp

end Go.Proofs.YtemeegpmdhgocaaGreat
