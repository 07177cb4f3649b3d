/- The walk of PackedNone. -/
import Derived.Test.YtjjhllbbkflnnaaWDecodes
import Derived.Test.YtjjhllbbkflnnaaPkFind
set_option linter.unusedVariables false
namespace Go.Proofs.Ytjjhllbbkflnnaa
open Go.RowKit HK

/-- As many zeros as a sequence can have. -/
def zerosL : List Nat := List.replicate 1048576 0
theorem zerosL_length : zerosL.length = 1048576 := List.length_replicate
theorem zerosL_zero : ∀ v ∈ zerosL, v = 0 := fun v hv => List.eq_of_mem_replicate hv
theorem zerosL_width : widthL zerosL = 0 := Nat.le_zero.1 ((widthL_le_iff 0 zerosL).2 (fun v hv => by rw [zerosL_zero v hv]; decide))
theorem zerosL_lt : ∀ v ∈ zerosL, v < 2 ^ 64 := fun v hv => by rw [zerosL_zero v hv]; decide

set_option maxHeartbeats 1000000 in
theorem pnew_long (w : World) (A : Option Addr) (n c : Nat) (hn : 1048576 < n) :
    Calls Try.prog 11 #[.slice A n c] w fun e w' => e = .returned (.tuple #[.pointer none, .int .i64 2]) ∧ w = w' := by
  have hnb : decide ((1048576 : Int) < (n : Int)) = true := by simp; omega
  go_enter Try.func11, Try.ntmps11
  go_wp2
  go_ret2
  exact ⟨rfl, rfl⟩
set_option maxHeartbeats 1000000 in
theorem penc_nil (w : World) : Calls Try.prog 17 #[.pointer none] w fun e w' => e = .returned (.slice none 0 0) ∧ w = w' := by
  go_enter Try.func17, Try.ntmps17
  go_wp2
  go_ret
  exact ⟨rfl, rfl⟩
set_option maxHeartbeats 1000000 in
theorem find_nil (w : World) (x : Int) : Calls Try.prog 20 #[.pointer none, .int .u64 x] w fun e w' => e = .returned (.int .i64 0) ∧ Below w.heap.size w w' := by
  have hse := search_p ((w.alloc (.cells #[.pointer none] 23)).alloc (.cells #[.int .u64 x] 27)) 0 (.pointer (some ⟨w.heap.size, 0, none⟩)) (.pointer (some ⟨w.heap.size + 1, 0, none⟩)) (fun _ => true) (by decide) (fun _ _ _ h => h) (fun q h hh => by omega)
  have HSE := Lib.hid hse; clear hse
  go_enter Try.func20, Try.ntmps20
  go_wp2_with fail
  refine (plen_nil _).mono ?_
  rintro e w' ⟨rfl, rfl⟩
  go_wp2_with fail
  refine HSE.out.mono ?_
  rintro e w' ⟨r, rfl, hr, h1, h2, k, rfl⟩
  obtain rfl : r = 0 := by omega
  clear h1 h2
  go_wp2
  go_ret
  exact ⟨rfl, bel_drewN (((Below.refl _ _).alloc (Nat.le_refl _) _).alloc (by simp) _) _⟩

theorem dec_bad : decodable [1, 0, 16, 0, 0] = false := by
  unfold decodable
  rw [decide_eq_false (show ¬ num4 [1, 0, 16, 0, 0] ≤ 1048576 by decide)]
  simp
theorem unpack_zeros (w : Nat) : unpack 0 1048576 (packN 8 (List.drop 5 [0, 0, 16, 0, 0])) = zerosL := by
  apply List.ext_getElem
  · rw [unpack_length, zerosL_length]
  · intro i h1 h2
    rw [zerosL_zero zerosL[i] (List.getElem_mem _)]
    simp only [unpack, List.getElem_map, Nat.pow_zero, Nat.mod_one]
theorem dec_zeros : decodeL [0, 0, 16, 0, 0] = zerosL := unpack_zeros 0
theorem code_zeros : code zerosL = [0, 0, 16, 0, 0] := by
  unfold code
  rw [zerosL_width, zerosL_length]
  rfl
theorem dec_good : decodable [0, 0, 16, 0, 0] = true := by
  unfold decodable
  rw [dec_zeros, code_zeros]
  decide
theorem made_zeros_sl (w : World) (g : Nat) (h : Row w g 27 (madeCells #[Value.int .u64 0] 1048577)) : Sl w w.heap.size (some ⟨g, 1, none⟩) 1048576 (zerosL.map u64v) := by
  refine ⟨by rw [List.length_map, zerosL_length], fun _ => ⟨g, 1, rfl, h.lt, fun j u hu => ?_⟩⟩
  obtain ⟨v, hv, rfl⟩ := at_u64 hu
  have hj : j < 1048576 := by
    have := (List.getElem?_eq_some_iff.1 hv).1
    rw [zerosL_length] at this
    exact this
  rw [zerosL_zero v (List.mem_of_getElem? hv), h.cell]
  have hj2 : 1 + j < 1048577 := by omega
  simp [madeCells, hj2, Nat.mod_one]

set_option maxHeartbeats 4000000 in
theorem none_all (w : World) : Calls Try.prog 10 #[] w fun e w' => e = .returned (.bool true) ∧ Below w.heap.size w w' := by
  have hmk0 := run_make_row' (P := Try.prog) 22 27 (.int .u64 0) 8 Try.underlying22 infoU64 rfl .i64 .i64 1048577 (by decide) (by decide)
  obtain ⟨MC, hMC⟩ : ∃ MC, madeCells #[Value.int .u64 0] 1048577 = MC := ⟨_, rfl⟩
  rw [hMC] at hmk0
  have hmk : ∀ w : World, (Instr.makeSlice 22 (.int .i64 1048577) (.int .i64 1048577)).run Try.prog w = .ok (.slice (some ⟨w.heap.size, 0, none⟩) 1048577 1048577) (w.alloc (.cells MC 27)) := hmk0
  have HMC := Lib.hid hMC; clear hMC hmk0
  go_enter Try.func10, Try.ntmps10
  go_wp2_with fail
  refine (pget2_nil 0 w).mono ?_
  rintro e w' ⟨rfl, rfl⟩
  go_wp2_with fail
  refine (plen_nil _).mono ?_
  rintro e w' ⟨rfl, rfl⟩
  go_wp2_with fail
  refine (pwidth_nil _).mono ?_
  rintro e w' ⟨rfl, rfl⟩
  go_wp2_with fail
  refine (find_nil _ 3).mono ?_
  rintro e w1 ⟨rfl, hB1⟩
  go_wp2_with fail
  refine (penc_nil _).mono ?_
  rintro e w' ⟨rfl, rfl⟩
  go_wp2_with fail
  refine (pnew_long _ _ 1048577 1048577 (by decide)).mono ?_
  rintro e w' ⟨rfl, rfl⟩
  clear hmk
  have HSL : Hid (Sl (w1.alloc (.cells MC 27)) (w1.alloc (.cells MC 27)).heap.size (some ⟨w1.heap.size, 1, none⟩) 1048576 (zerosL.map u64v)) := Lib.hid (made_zeros_sl _ _ (by rw [HMC.out]; exact Row.new w1 _ _))
  go_wp2_with fail
  refine (new_any _ _ 1048576 1048576 zerosL (by decide) zerosL_lt HSL.out).mono ?_
  rintro e w2 ⟨b, g, rfl, hip, hB2⟩
  have hB2' : Below w.heap.size w w2 := (hB1.alloc hB1.size _).trans (hB2.mono (by have := hB1.size; simp; omega))
  have hc0 : w2.cell? ⟨b, 0, none⟩ = some (.int .i64 1048576) := by have := hip.1.1.cell 0; rw [zerosL_length] at this; exact this
  have hc1 : w2.cell? ⟨b, 1, none⟩ = some (.int .i64 0) := by have := hip.1.1.cell 1; rw [zerosL_width] at this; exact this
  clear hip hB2
  go_wp2_with fail
  refine (plen_any _ _ _ hc0).mono ?_
  rintro e w' ⟨rfl, rfl⟩
  go_wp2_with fail
  refine (pwidth_any _ _ _ hc1).mono ?_
  rintro e w' ⟨rfl, rfl⟩
  go_wp2_with fail
  refine (pdec_any _ _ 5 5 [1, 0, 16, 0, 0] (by decide) (by decide) (by decide) (by rw [World.size_alloc]; exact sl_lit (cs := #[.int .u8 1, .int .u8 0, .int .u8 16, .int .u8 0, .int .u8 0]) rfl)).mono ?_
  rintro e w3 ⟨hB3, ⟨hd, _⟩ | ⟨_, rfl⟩⟩
  · rw [dec_bad] at hd; cases hd
  · have hB3' : Below w.heap.size w w3 := (hB2'.alloc hB2'.size _).trans (hB3.mono (by have := hB2'.size; simp; omega))
    clear hB3
    go_wp2_with fail
    refine (pdec_any _ _ 5 5 [0, 0, 16, 0, 0] (by decide) (by decide) (by decide) (by rw [World.size_alloc]; exact sl_lit (cs := #[.int .u8 0, .int .u8 0, .int .u8 16, .int .u8 0, .int .u8 0]) rfl)).mono ?_
    rintro e w4 ⟨hB4, ⟨_, p, q, rfl, hip⟩ | ⟨hd, _⟩⟩
    · have hB4' : Below w.heap.size w w4 := (hB3'.alloc hB3'.size _).trans (hB4.mono (by have := hB3'.size; simp; omega))
      rw [dec_zeros] at hip
      have hc4 : w4.cell? ⟨p, 0, none⟩ = some (.int .i64 1048576) := by have := hip.1.1.cell 0; rw [zerosL_length] at this; exact this
      clear hip hB4
      go_wp2_with fail
      refine (plen_any _ _ _ hc4).mono ?_
      rintro e w' ⟨rfl, rfl⟩
      go_wp2_with fail
      refine (works_true w4).mono ?_
      rintro e w5 ⟨rfl, hB5⟩
      go_wp2
      go_ret
      exact ⟨rfl, hB4'.trans (hB5.mono hB4'.size)⟩
    · rw [dec_good] at hd; cases hd
end Go.Proofs.Ytjjhllbbkflnnaa
