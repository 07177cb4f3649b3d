/- Openers: a slice of bools that came in, read as a list. -/
import Derived.Test.YtofeemmmdbdjdaaMem3
import Derived.Deep.Grids
set_option linter.unusedVariables false
namespace Go.Proofs.Ytofeemmmdbdjdaa
open Go.RowKit Go.Deep

theorem bools_in {H : Type} {enc : TypeId × Value → H} {P : Program} {W : World} {base : Nat} {held : Bool} {t e : TypeId} {a : Option Addr} {len cap : Nat} {d : DataW H} {ps : List MemPlace}
    (ht : P.underlying t = some (.slice e)) (he : P.underlying e = some .bool) (hc : P.cellsOf e = 1) (h : DataW.Trod enc P W base (fun _ => true) held t (.slice a len cap) d ps) :
    ∃ l : List Bool, len ≤ maxLen ∧ Sl W W.heap.size a len (l.map Value.bool) := by
  obtain ⟨fuel, hf⟩ := h
  rcases open_bools ht he hc hf with ⟨hcs, _⟩ | ⟨x, len', cap', B, hcs, _, hl, hm, _, hcell⟩
  · simp [Value.cells] at hcs
    obtain ⟨rfl, rfl, rfl⟩ := hcs
    exact ⟨[], Nat.zero_le _, rfl, fun h => by omega⟩
  · simp [Value.cells] at hcs
    obtain ⟨rfl, rfl, rfl⟩ := hcs
    refine ⟨(List.range len).map B, by omega, by simp, fun h0 => ?_⟩
    obtain ⟨b, off, spot⟩ := x
    have hc0 := hcell 0 (by omega)
    have hspot : spot = none := by simpa [Addr.add] using World.cell?_spot hc0
    subst hspot
    refine ⟨b, off, rfl, cell_lt hc0, fun j u hu => ?_⟩
    have hj : j < len := by
      rcases Nat.lt_or_ge j len with h1 | h1
      · exact h1
      · rw [List.getElem?_eq_none (by simp; omega)] at hu; cases hu
    have h2 := hcell j (by omega)
    simp only [List.map_map, List.getElem?_map, List.getElem?_range hj, Option.map_some, Function.comp] at hu
    rw [Option.some.inj hu.symm]
    by_cases hj0 : j = 0
    · subst hj0; simpa [Addr.add] using h2
    · simpa [Addr.add, hj0] using h2
end Go.Proofs.Ytofeemmmdbdjdaa
