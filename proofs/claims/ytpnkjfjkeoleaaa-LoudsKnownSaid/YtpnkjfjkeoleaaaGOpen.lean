/- GOpen: several texts in one: Openers: a slice of bools that came in, read as a list. Openers: a slice of bytes, or of strings, that came in, read as a list. Conditions: those each theorem names. -/
import Derived.Test.YtpnkjfjkeoleaaaGMem
import Derived.Deep.Grids
import Derived.SliceStrings
import Derived.OpenShut
import Derived.ProofKit
/-! Openers: a slice of bools that came in, read as a list. -/
set_option linter.unusedVariables false
set_option maxRecDepth 100000
namespace Go.Proofs.Ytpnkjfjkeoleaaa
open Go.RowKit Go.Deep

theorem bools_in {H : Type} {enc : TypeId × Value → H} {P : Program} {W : World} {base : Nat} {held : Bool} {t e : TypeId} {a : Option Addr} {len cap : Nat} {d : DataW H} {ps : List MemPlace}
    (ht : P.underlying t = some (.slice e)) (he : P.underlying e = some .bool) (hc : P.cellsOf e = 1) (h : DataW.Trod enc P W base (fun _ => true) held t (.slice a len cap) d ps) :
    ∃ l : List Bool, len ≤ maxLen ∧ Sl W W.heap.size a len (l.map Value.bool) := by
  obtain ⟨fuel, hf⟩ := h
  rcases open_bools ht he hc hf with ⟨hcs, _⟩ | ⟨x, len', cap', B, hcs, _, hl, hm, _, hcell⟩
  · simp [Value.cells] at hcs
    obtain ⟨rfl, rfl, rfl⟩ := hcs
    exact ⟨[], Nat.zero_le _, rfl, fun h => by omega⟩
  · simp [Value.cells] at hcs
    obtain ⟨rfl, rfl, rfl⟩ := hcs
    refine ⟨(List.range len).map B, by omega, by simp, fun h0 => ?_⟩
    obtain ⟨b, off, spot⟩ := x
    have hc0 := hcell 0 (by omega)
    have hspot : spot = none := by simpa [Addr.add] using World.cell?_spot hc0
    subst hspot
    refine ⟨b, off, rfl, cell_lt hc0, fun j u hu => ?_⟩
    have hj : j < len := by
      rcases Nat.lt_or_ge j len with h1 | h1
      · exact h1
      · rw [List.getElem?_eq_none (by simp; omega)] at hu; cases hu
    have h2 := hcell j (by omega)
    simp only [List.map_map, List.getElem?_map, List.getElem?_range hj, Option.map_some, Function.comp] at hu
    rw [Option.some.inj hu.symm]
    by_cases hj0 : j = 0
    · subst hj0; simpa [Addr.add] using h2
    · simpa [Addr.add, hj0] using h2
end Go.Proofs.Ytpnkjfjkeoleaaa

/-! Openers: a slice of bytes, or of strings, that came in, read as a list. -/
set_option linter.unusedVariables false
namespace Go.Proofs.Ytpnkjfjkeoleaaa
open Go.RowKit Go.ChangeShapes Go.WideShapes Go.ChangeAt

/-- A slice of bytes that came in. -/
def ArgU8 (w : World) (a : Option Addr) (len cap : Nat) (l : List Nat) : Prop :=
  len ≤ cap ∧ cap ≤ maxLen ∧ (∀ v ∈ l, v < 256) ∧ Sl w w.heap.size a len (l.map fun v : Nat => Value.int .u8 (v : Int))
theorem u8s_in {H : Type} {enc : TypeId × Value → H} {P : Program} {W : World} {base : Nat} {held : Bool} {t e : TypeId} {a : Option Addr} {len cap : Nat} {d : DataW H} {ps : List MemPlace}
    (ht : P.underlying t = some (.slice e)) (he : P.underlying e = some (.int .u8)) (hc : P.cellsOf e = 1) (h : DataW.Trod enc P W base (fun _ => true) held t (.slice a len cap) d ps) :
    ∃ l : List Nat, len ≤ maxLen ∧ ArgU8 W a len cap l := by
  obtain ⟨fuel, hf⟩ := h
  have hrow : ∃ zs, ArgRow .u8 W a len cap zs := by
    rcases open_ints ht he hc hf with ⟨hcs, _⟩ | ⟨x, l, c, zs, hcs, _, hl, hm, hz, _, hcell, hwz⟩
    · simp [Value.cells] at hcs
      obtain ⟨rfl, rfl, rfl⟩ := hcs
      exact ⟨[], .inl ⟨rfl, rfl, rfl, rfl⟩⟩
    · simp [Value.cells] at hcs
      obtain ⟨rfl, rfl, rfl⟩ := hcs
      exact ⟨zs, .inr ⟨_, rfl, hl, hm, by simpa using hz, hcell, hwz⟩⟩
  obtain ⟨zs, hz⟩ := hrow
  obtain ⟨l, hl, hc, hcm, hw, hs⟩ := arg_sl hz nn_u8
  exact ⟨l, by omega, hc, hcm, fun v hv => lt_u8 v (hw v hv), hs⟩
/-- A slice of strings that came in. -/
def ArgStr (w : World) (a : Option Addr) (len cap : Nat) (ss : List ByteArray) : Prop :=
  len ≤ cap ∧ cap ≤ maxLen ∧ (∀ s ∈ ss, s.size ≤ maxLen) ∧ Sl w w.heap.size a len (ss.map Value.string)
theorem strings_in {H : Type} {enc : TypeId × Value → H} {P : Program} {W : World} {base : Nat} {held : Bool} {t e : TypeId} {a : Option Addr} {len cap : Nat} {d : DataW H} {ps : List MemPlace}
    (ht : P.underlying t = some (.slice e)) (he : P.underlying e = some .string) (hc : P.cellsOf e = 1) (h : DataW.Trod enc P W base (fun _ => true) held t (.slice a len cap) d ps) :
    ∃ ss : List ByteArray, len ≤ maxLen ∧ ArgStr W a len cap ss := by
  obtain ⟨fuel, hf⟩ := h
  rcases open_strings ht he hc hf with ⟨hcs, _⟩ | ⟨x, l, c, zs, hcs, _, hl, hm, hz, _, hcell, hwz⟩
  · simp [Value.cells] at hcs
    obtain ⟨rfl, rfl, rfl⟩ := hcs
    exact ⟨[], Nat.zero_le _, Nat.le_refl _, Nat.zero_le _, by simp, rfl, fun h => by omega⟩
  · simp [Value.cells] at hcs
    obtain ⟨rfl, rfl, rfl⟩ := hcs
    simp only [if_true] at hz
    refine ⟨zs.take len, by omega, hl, hm, fun s hs => hwz s (List.mem_of_mem_take hs), by simp; omega, fun h0 => ?_⟩
    obtain ⟨b, off, spot⟩ := x
    have hc0 := hcell 0 (by omega)
    have hspot : spot = none := by simpa [Addr.add] using World.cell?_spot hc0
    subst hspot
    have hlt := cell_lt hc0
    refine ⟨b, off, rfl, by simpa [Addr.add] using hlt, fun j u hu => ?_⟩
    rw [List.getElem?_map] at hu
    obtain ⟨z, hz', rfl⟩ := Option.map_eq_some_iff.1 hu
    have hj : j < len := by
      rcases Nat.lt_or_ge j len with h6 | h6
      · exact h6
      · rw [List.getElem?_eq_none (by simp; omega)] at hz'; cases hz'
    rw [List.getElem?_take_of_lt hj] at hz'
    have h2 := hcell j (by omega)
    have hzj : zs.getD j ByteArray.empty = z := by rw [List.getD_eq_getElem?_getD, hz']; rfl
    rw [hzj] at h2
    by_cases hj0 : j = 0
    · subst hj0; simpa [Addr.add] using h2
    · simpa [Addr.add, hj0] using h2
end Go.Proofs.Ytpnkjfjkeoleaaa
