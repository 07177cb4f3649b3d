/- A string as a slice of bytes: []byte(s). -/
import Derived.Test.YtofeemmmdbdjdaaBvMem
import Derived.Laws.IdiomStrings
set_option linter.unusedVariables false
namespace Go.Proofs.Ytofeemmmdbdjdaa.B
open Go.RowKit HK

/-- The bytes of a string, as numbers. -/
def bytesOf (s : ByteArray) : List Nat := s.data.toList.map UInt8.toNat
theorem bytesOf_len (s : ByteArray) : (bytesOf s).length = s.size := by simp [bytesOf]
theorem bytesOf_lt (s : ByteArray) : ∀ v ∈ bytesOf s, v < 256 := by
  intro v hv
  obtain ⟨b, _, rfl⟩ := List.mem_map.1 hv
  exact b.toNat_lt
theorem bytesOf_bs (l : List Nat) (h : ∀ v ∈ l, v < 256) : bytesOf (bs l) = l := by
  unfold bytesOf
  rw [bs_data, List.map_map]
  conv => rhs; rw [← List.map_id l]
  apply List.map_congr_left
  intro v hv
  have := h v hv
  simp
  omega
theorem bs_bytesOf (s : ByteArray) : bs (bytesOf s) = s := by
  have h : (bs (bytesOf s)).data.toList = s.data.toList := by
    rw [bs_data]
    unfold bytesOf
    rw [List.map_map]
    conv => rhs; rw [← List.map_id s.data.toList]
    apply List.map_congr_left
    intro v hv
    simp
  cases hs : bs (bytesOf s) with
  | mk d =>
    rw [hs] at h
    cases s with
    | mk d' =>
      congr 1
      exact Array.toList_inj.1 h
theorem of_string (w : World) (s : ByteArray) (h : s.size ≤ maxLen) :
    ∃ A c w1, (convert 9 36 (.string s)).run Try.prog w = .ok (.slice A s.size c) w1 ∧ s.size ≤ c ∧ c ≤ maxLen ∧ Below w.heap.size w w1 ∧ Sl w1 w1.heap.size A s.size ((bytesOf s).map fun v : Nat => Value.int .u8 (v : Int)) := by
  refine ⟨_, _, _, run_bytes_of_string w 9 36 5 s Try.underlying9 Try.underlying36 Try.underlying5, grownCap_ge _ _ _ _, grownCap_le_maxLen _ _ _ _ h, ((Below.refl _ _).drew.alloc (Nat.le_refl _) _), by simp [bytesOf], fun _ => ⟨w.heap.size, 0, rfl, by simp, fun j u hu => ?_⟩⟩
  simp only [bytesOf, List.map_map, List.getElem?_map] at hu
  obtain ⟨b, hb, rfl⟩ := Option.map_eq_some_iff.1 hu
  have hj : j < s.data.size := by
    rcases Nat.lt_or_ge j s.data.size with h1 | h1
    · exact h1
    · rw [List.getElem?_eq_none (by simpa using h1)] at hb; cases hb
  have hbj : s.data[j] = b := by
    have : s.data.toList[j]? = some s.data[j] := by rw [List.getElem?_eq_getElem (by simpa using hj)]; simp
    rw [hb] at this
    injection this with this
    exact this.symm
  have hnew : (w.drew.alloc (.cells (bytesRow s (grownCap w s.size 0 5)) 5 ((bytesRow s (grownCap w s.size 0 5)).size, (bytesRow s (grownCap w s.size 0 5)).size + 1))).heap[w.heap.size]? = some _ := heap_alloc_new w.drew _
  rw [Nat.zero_add, cell_of_row _ w.heap.size j _ _ _ hnew, bytesRow_at s _ j hj, hbj]
  rfl
end Go.Proofs.Ytofeemmmdbdjdaa.B
