/- A slice of the call's own whose elements are overwritten one after the other, whatever they are; the rest stays. Conditions: those each theorem names. -/
import Derived.Test.YtofeemmmdbdjdaaGen
set_option linter.unusedVariables false
namespace Go.Proofs.Ytofeemmmdbdjdaa
open Go.RowKit

def BumpV (P : Value → Prop) (t : TypeId) (W wr : World) (base : Nat) (v : Value) (n : Nat) : Prop :=
  (∃ ys : List Value, (∀ y ∈ ys, P y) ∧ ys.length = n ∧ wr.ownsRow base t 1 v n ys) ∧ W.grownBy wr v.ownBlock
theorem BumpV.start {P : Value → Prop} {t : TypeId} {W : World} {base : Nat} {v : Value} {n : Nat} {ys : List Value} (hP : ∀ y ∈ ys, P y) (h : W.ownsRow base t 1 v n ys) : BumpV P t W W base v n :=
  ⟨⟨ys, hP, own_len h, h⟩, World.grownBy.refl _ _⟩
theorem BumpV.at_ {P : Value → Prop} {t : TypeId} {W wr : World} {base : Nat} {A : Option Addr} {n c j : Nat} (h : BumpV P t W wr base (.slice A n c) n) (hj : j < n) :
    ∃ gm y, P y ∧ A = some ⟨gm, 0, none⟩ ∧ wr.cell? ⟨gm, j, none⟩ = some y ∧ wr.frozen? ⟨gm, j, none⟩ = false ∧
      ∀ z, P z → BumpV P t W (wr.setCell ⟨gm, j, none⟩ z) base (.slice A n c) n := by
  obtain ⟨⟨ys, hP, hy, hown⟩, hg⟩ := h
  rcases hown.2 with ⟨_, h0⟩ | ⟨gm, cap, cur, hv, hbg, hr⟩
  · omega
  · injection hv with hA _ hc
    subst hA hc
    refine ⟨gm, ys[j], hP _ (List.getElem_mem _), rfl, ?_, hown.frozenAt j, fun z hz => ?_⟩
    · rw [hown.cellAt j (by omega), List.getElem?_eq_getElem (by omega)]
    · have hs := hown.stored j z
      refine ⟨⟨ys.set j z, fun y hy' => ?_, by simp [hy], hs.1⟩, hg.trans hs.2⟩
      rcases List.mem_or_eq_of_mem_set hy' with h1 | h1
      · exact hP y h1
      · rw [h1]; exact hz
theorem BumpV.below {P : Value → Prop} {t : TypeId} {W wr : World} {base B : Nat} {v : Value} {n : Nat} (h : BumpV P t W wr base v n) (hb : B ≤ base) (hW : B ≤ W.heap.size) : Below B W wr := by
  obtain ⟨⟨ys, hP, hy, hown⟩, hg⟩ := h
  exact (Below.refl _ _).grown hg hW (fun q e => by have := (hown.lt q e).1; omega)
/-- What lies in blocks from S on and below E stays, if the slice's own block lies outside. -/
theorem BumpV.agree {P : Value → Prop} {t : TypeId} {W wr : World} {base S E : Nat} {v : Value} {n : Nat} (h : BumpV P t W wr base v n) (hE : E ≤ W.heap.size) (hr : ∀ q, v.ownBlock = some q → q < S ∨ E ≤ q) : Agree S E W wr :=
  Agree.of_grown h.2 hE hr
end Go.Proofs.Ytofeemmmdbdjdaa
