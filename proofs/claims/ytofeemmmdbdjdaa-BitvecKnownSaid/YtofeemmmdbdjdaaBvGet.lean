/- bitvec: Get. -/
import Derived.Test.YtofeemmmdbdjdaaBvSel2
set_option linter.unusedVariables false
namespace Go.Proofs.Ytofeemmmdbdjdaa.B
open Go.RowKit HK

def getB (N n : Nat) (i : Int) : Bool := decide (0 ≤ i) && decide (i < (n : Int)) && N.testBit i.toNat
theorem bit_word (N j : Nat) : (bits .and .u64 ((word N (j / 64) : Nat) / 2 ^ (j % 64) : Int) 1 == 1) = N.testBit j := by
  have h1 : word N (j / 64) / 2 ^ (j % 64) < 2 ^ 64 := Nat.lt_of_le_of_lt (Nat.div_le_self _ _) (word_lt _ _)
  rw [dvp, show (1 : Int) = ((1 : Nat) : Int) from rfl, u64_and_nat _ _ h1 (by decide), Nat.and_one_is_mod]
  have h2 := word_bit N (j / 64) (j % 64)
  rw [show 64 * (j / 64) + j % 64 = j by omega] at h2
  have h3 : decide (j % 64 < 64) = true := by simp; omega
  rw [h3, Bool.true_and] at h2
  rw [← h2, Nat.testBit_eq_decide_div_mod_eq]
  cases h4 : decide (word N (j / 64) / 2 ^ (j % 64) % 2 = 1) with
  | true => simp only [decide_eq_true_eq] at h4; rw [h4]; rfl
  | false =>
    simp only [decide_eq_false_iff_not] at h4
    have h5 : word N (j / 64) / 2 ^ (j % 64) % 2 = 0 := by omega
    rw [h5]; rfl

set_option maxHeartbeats 1000000 in
theorem bget_any (w : World) (S E b n N : Nat) (h : Bv w S E b n N) (i : Int) (hi : (Lit.int .i64 i).wf = true) :
    Calls Try.prog 21 #[.pointer (some ⟨b, 0, none⟩), .int .i64 i] w fun e w' => e = .returned (.bool (getB N n i)) ∧ ∃ k, w' = w.drewN k := by
  obtain ⟨hn, h2, h3, h4, A1, c1, A2, c2, hr, hw, hc⟩ := h
  have hr64 := rg_i64 i hi
  have hc0 : w.cell? ⟨b, 0, none⟩ = some (.int .i64 n) := hr.cell 0
  have hc1 : w.cell? ⟨b, 1, none⟩ = some (.slice A1 ((n + 63) / 64) c1) := hr.cell 1
  have HR := Lib.hid hr; clear hr hc
  have HW := Lib.hid hw; clear hw h2
  by_cases h0 : i < 0
  · have hb0 : decide (0 ≤ i) = false := by simp; omega
    have hg : getB N n i = false := by unfold getB; rw [hb0]; rfl
    rw [hg]
    go_enter Try.func21, Try.ntmps21
    go_wp2
    all_goals (go_ret; exact ⟨rfl, 0, rfl⟩)
  · by_cases h1 : (n : Int) ≤ i
    · have hb0 : decide (0 ≤ i) = true := by simp; omega
      have hb1 : decide (i < (n : Int)) = false := by simp; omega
      have hg : getB N n i = false := by unfold getB; rw [hb0, hb1]; rfl
      rw [hg]
      go_enter Try.func21, Try.ntmps21
      go_wp2_with (go_at_call 18; refine (blen_any _ _ _ hc0).mono ?_; rintro e w' ⟨rfl, rfl⟩)
      all_goals (go_ret; exact ⟨rfl, 0, rfl⟩)
    · obtain ⟨j, rfl⟩ : ∃ j : Nat, i = (j : Int) := ⟨i.toNat, by omega⟩
      have hj : j < n := by omega
      have hb0 : decide ((0 : Int) ≤ (j : Int)) = true := by simp
      have hb1 : decide ((j : Int) < (n : Int)) = true := by simp; omega
      have hg : getB N n j = N.testBit j := by unfold getB; rw [hb0, hb1]; simp
      rw [hg]
      obtain ⟨g1, o1, rfl, -, -, hw1⟩ := HW.out.2 (by omega)
      have hx : w.cell? ⟨g1, o1 + j / 64, none⟩ = some (.int .u64 (word N (j / 64))) := hw1 _ _ (wordsL_at N _ _ (by omega))
      clear hw1
      have HV := Lib.hid (bit_word N j)
      go_enter Try.func21, Try.ntmps21
      go_wp2_with (go_at_call 18; refine (blen_any _ _ _ hc0).mono ?_; rintro e w' ⟨rfl, rfl⟩)
      all_goals (go_ret; rw [← HV.out]; exact ⟨rfl, 0, rfl⟩)
end Go.Proofs.Ytofeemmmdbdjdaa.B
