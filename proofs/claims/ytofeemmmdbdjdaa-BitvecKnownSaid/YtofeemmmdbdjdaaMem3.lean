/- A slice of the call's own whose elements are overwritten one after the other; everything else stays. Conditions: those each theorem names. -/
import Derived.Test.YtofeemmmdbdjdaaMem2
set_option linter.unusedVariables false
namespace Go.Proofs.Ytofeemmmdbdjdaa
open Go.RowKit

def Bump (t : TypeId) (k : IntKind) (W wr : World) (base : Nat) (v : Value) (n : Nat) : Prop :=
  (∃ ys : List Nat, ys.length = n ∧ wr.ownsRow base t 1 v n (ys.map fun y : Nat => Value.int k (y : Int))) ∧ W.grownBy wr v.ownBlock
theorem Bump.start {t : TypeId} {k : IntKind} {W : World} {base : Nat} {v : Value} {n : Nat} {ys : List Nat} (h : W.ownsRow base t 1 v n (ys.map fun y : Nat => Value.int k (y : Int))) : Bump t k W W base v n :=
  ⟨⟨ys, by have := own_len h; simpa using this, h⟩, World.grownBy.refl _ _⟩
theorem Bump.at_ {t : TypeId} {k : IntKind} {W wr : World} {base : Nat} {A : Option Addr} {n c j : Nat} (h : Bump t k W wr base (.slice A n c) n) (hj : j < n) :
    ∃ gm y, A = some ⟨gm, 0, none⟩ ∧ wr.cell? ⟨gm, j, none⟩ = some (.int k (y : Nat)) ∧ wr.frozen? ⟨gm, j, none⟩ = false ∧
      ∀ z : Nat, Bump t k W (wr.setCell ⟨gm, j, none⟩ (.int k (z : Int))) base (.slice A n c) n := by
  obtain ⟨⟨ys, hy, hown⟩, hg⟩ := h
  rcases hown.2 with ⟨_, h0⟩ | ⟨gm, cap, cur, hv, hbg, hr⟩
  · omega
  · injection hv with hA _ hc
    subst hA hc
    refine ⟨gm, ys[j], rfl, ?_, hown.frozenAt j, fun z => ?_⟩
    · rw [hown.cellAt j (by omega), List.getElem?_map, List.getElem?_eq_getElem (by omega)]; rfl
    · have hs := hown.stored j (.int k (z : Int))
      refine ⟨⟨ys.set j z, by simp [hy], ?_⟩, hg.trans hs.2⟩
      rw [List.map_set]
      exact hs.1
theorem Bump.below {t : TypeId} {k : IntKind} {W wr : World} {base B : Nat} {v : Value} {n : Nat} (h : Bump t k W wr base v n) (hb : B ≤ base) (hW : B ≤ W.heap.size) : Below B W wr := by
  obtain ⟨⟨ys, hy, hown⟩, hg⟩ := h
  exact (Below.refl _ _).grown hg hW (fun q e => by have := (hown.lt q e).1; omega)
theorem Bump.row {t t' : TypeId} {k : IntKind} {W wr : World} {base : Nat} {v : Value} {n g : Nat} {cs : Array Value} (h : Bump t k W wr base v n) (hr : Row W g t' cs) (hne : v.ownBlock ≠ some g) : Row wr g t' cs :=
  hr.grown h.2 (fun e => hne e.symm)
theorem Sl.grown {w w' : World} {B : Nat} {A : Option Addr} {n : Nat} {xs : List Value} {row : Option Nat} (h : Sl w B A n xs) (hg : w.grownBy w' row) (hB : B ≤ w.heap.size) (hr : ∀ q, row = some q → B ≤ q) : Sl w' B A n xs :=
  h.keep fun b o hp => World.cell?_of_block (a := ⟨b, o, none⟩) (hg.block b (by omega) (fun e => by have := hr b e.symm; omega))
end Go.Proofs.Ytofeemmmdbdjdaa
