/- bitvec: the law BitvecLong. -/
import Derived.Test.YtofeemmmdbdjdaaBvRef
set_option linter.unusedVariables false
namespace Go.Proofs.Ytofeemmmdbdjdaa.B
open Go.RowKit HK

/-- n bits, of which every e-th one before i is true. -/
def evL (n e i : Nat) : List Bool := (List.range n).map fun j => decide (j % e = 0) && decide (j < i)
theorem evL_len (n e i : Nat) : (evL n e i).length = n := by simp [evL]
theorem evL_at (n e i j : Nat) (h : j < n) : (evL n e i)[j]? = some (decide (j % e = 0) && decide (j < i)) := by simp [evL, h]
theorem evL_bit (n e i j : Nat) (h : j < n) : (bitsN (evL n e i)).testBit j = (decide (j % e = 0) && decide (j < i)) := bit_at _ _ _ (evL_at n e i j h)
def evA (n e i : Nat) : Array Value := ((evL n e i).map Value.bool).toArray
theorem evA_size (n e i : Nat) : (evA n e i).size = n := by simp [evA, evL]
theorem evA_at (n e i j : Nat) (h : j < n) : (evA n e i)[j]? = some (.bool (decide (j % e = 0) && decide (j < i))) := by simp [evA, evL_at n e i j h]
theorem evA_zero (n e : Nat) : madeCells #[Value.bool false] n = evA n e 0 := by
  apply Array.ext_getElem?
  intro j
  by_cases hj : j < n
  · rw [evA_at n e 0 j hj]
    simp [madeCells, hj, Nat.mod_one]
  · rw [Array.getElem?_eq_none (by rw [size_madeCells]; omega), Array.getElem?_eq_none (by rw [evA_size]; omega)]
theorem mult_gap (e k j : Nat) (h0 : j % e = 0) (h1 : e * k < j) (h2 : j < e * k + e) : False := by
  have hj : j = e * (j / e) := by have := Nat.div_add_mod j e; omega
  rw [hj] at h1 h2
  have a := Nat.lt_of_mul_lt_mul_left h1
  rw [← Nat.mul_succ] at h2
  have b := Nat.lt_of_mul_lt_mul_left h2
  omega
theorem evA_put (n e k : Nat) (he : 0 < e) (hk : e * k < n) : (evA n e (e * k)).setIfInBounds (e * k) (.bool true) = evA n e (e * k + e) := by
  apply Array.ext_getElem?
  intro j
  by_cases hj : j < n
  · rw [Array.getElem?_setIfInBounds, evA_at n e _ j hj, evA_at n e _ j hj]
    by_cases hkk : e * k = j
    · rw [if_pos hkk, if_pos (by rw [evA_size]; exact hk), ← hkk]
      simp [he]
    · rw [if_neg hkk]
      congr 2
      by_cases h0 : j % e = 0
      · have : (j < e * k) ↔ (j < e * k + e) := by
          constructor
          · intro h; omega
          · intro h
            rcases Nat.lt_or_ge j (e * k) with h1 | h1
            · exact h1
            · exact (mult_gap e k j h0 (by omega) h).elim
        simp [h0, this]
      · simp [h0]
  · rw [Array.getElem?_eq_none (by simp [evA_size]; omega), Array.getElem?_eq_none (by rw [evA_size]; omega)]
theorem evL_full (n e i : Nat) (h : n ≤ i) : evL n e i = evL n e n := by
  unfold evL
  apply List.map_congr_left
  intro j hj
  have := List.mem_range.1 hj
  simp [this, Nat.lt_of_lt_of_le this h]
theorem ceil_step (e a : Nat) (he : 0 < e) : (a + 1 + e - 1) / e = (a + e - 1) / e + (decide (a % e = 0)).toNat := by
  have hd := Nat.div_add_mod a e
  have hm := Nat.mod_lt a he
  have e1 : a + 1 + e - 1 = a + e := by omega
  rw [e1, Nat.add_div_right _ he]
  by_cases h0 : a % e = 0
  · have e2 : a + e - 1 = (e - 1) + e * (a / e) := by omega
    rw [e2, Nat.add_mul_div_left _ _ he, Nat.div_eq_of_lt (show e - 1 < e by omega)]
    simp [h0]
  · have e2 : a + e - 1 = (a % e - 1) + e * (a / e + 1) := by rw [Nat.mul_add]; omega
    rw [e2, Nat.add_mul_div_left _ _ he, Nat.div_eq_of_lt (show a % e - 1 < e by omega)]
    simp [h0]
theorem ev_cnt (n e : Nat) (he : 0 < e) : ∀ a, a ≤ n → cnt (bitsN (evL n e n)) a = (a + e - 1) / e
  | 0, _ => by rw [Nat.div_eq_of_lt (show 0 + e - 1 < e by omega)]; rfl
  | a + 1, h => by
    show cnt _ a + _ = _
    rw [ev_cnt n e he a (by omega), evL_bit n e n a (by omega), ceil_step e a he]
    have : a < n := by omega
    simp [this]
theorem ev_all (n e : Nat) (he : 0 < e) (hn : 0 < n) : rk (bitsN (evL n e n)) true n = (n - 1) / e + 1 := by
  unfold rk
  rw [if_pos rfl, ev_cnt n e he n (Nat.le_refl _)]
  rw [show n + e - 1 = (n - 1) + e by omega, Nat.add_div_right _ he]
theorem ev_sel (n e k : Nat) (he : 0 < e) (hk : e * k < n) : SelAt (bitsN (evL n e n)) n true (k : Int) ((e * k : Nat) : Int) := by
  have h1 : rk (bitsN (evL n e n)) true (e * k) = k := by
    unfold rk
    rw [if_pos rfl, ev_cnt n e he _ (by omega)]
    rw [show e * k + e - 1 = (e - 1) + e * k by omega, Nat.add_mul_div_left _ _ he, Nat.div_eq_of_lt (show e - 1 < e by omega)]; omega
  refine .inr ⟨e * k, rfl, hk, by rw [h1], ?_⟩
  rw [rk_step, h1, evL_bit n e n _ hk]
  simp [hk]

theorem made_ev (e n : Nat) (N : Int) (C : Array Value) (hb : n ≤ 1048577) (hn : (n : Int) = N) (hC : evA n e 0 = C) (w : World) :
    (Instr.makeSlice 22 (.int .i64 N) (.int .i64 N)).run Try.prog w = .ok (.slice (some ⟨w.heap.size, 0, none⟩) n n) (w.alloc (.cells C 4)) := by
  subst hn hC
  have hmk := run_make_row' (P := Try.prog) 22 4 (.bool false) 1 Try.underlying22 infoBool rfl .i64 .i64 n (by omega) (by omega) w
  rwa [evA_zero n e] at hmk
def LongSt (w wr : World) (n e i : Nat) : Prop := Row wr w.heap.size 4 (evA n e i) ∧ Below w.heap.size w wr

set_option maxRecDepth 100000 in
set_option maxHeartbeats 2000000 in
theorem long_more (v : Nat) (hv : v < 256) (w : World) :
    Calls Try.prog 5 #[.bool true, .int .u8 (v : Int)] w fun e w' => e = .returned (.bool true) ∧ Below w.heap.size w w' := by
  obtain ⟨n, hn⟩ : ∃ n : Nat, n = 1048577 := ⟨_, rfl⟩
  obtain ⟨C, hC⟩ : ∃ C, evA n (v + 1) 0 = C := ⟨_, rfl⟩
  have hmk := made_ev (v + 1) n 1048577 C (by omega) (by rw [hn]; rfl) hC
  have HC := Lib.hid hC
  have HN := Lib.hid hn; clear hn hC
  go_enter Try.func5, Try.ntmps5
  go_wp2
  clear hmk
  go_loopw [7] (fun x wr => ∃ i k : Nat, i ≤ 1048832 ∧ x = .int .i64 i ∧ Hid (i = (v + 1) * k) ∧ LongSt w wr n (v + 1) i) (fun x _ => 1048832 - (intOf x).toNat)
  case atStart => exact ⟨0, 0, by omega, rfl, Lib.hid rfl, by rw [HC.out]; exact Row.new w _ _, (Below.refl _ _).alloc (Nat.le_refl _) _⟩
  case round =>
    obtain ⟨i, k, hi, rfl, HI, hrow, hB⟩ := hrel
    have HR := Lib.hid hrow; clear hrow
    by_cases hlt : i < 1048577
    · have hin : i < n := by rw [HN.out]; exact hlt
      have hin2 : (i : Int) < (n : Int) := by omega
      have hb1 : decide ((i : Int) < 1048577) = true := by simp; omega
      have hib : i ≤ 4611686018427387904 := by omega
      have HLT := Lib.hid hlt; have HI2 := Lib.hid hi; clear hlt hi
      have hcell : wr.cell? ⟨w.heap.size, i, none⟩ = some (.bool (decide (i % (v + 1) = 0) && decide (i < i))) := (HR.out.cell i).trans (evA_at _ _ _ _ (by rw [HN.out]; exact HLT.out))
      obtain ⟨y, hy⟩ : ∃ y, (decide (i % (v + 1) = 0) && decide (i < i)) = y := ⟨_, rfl⟩
      rw [hy] at hcell
      have hfr := HR.out.frozen i
      clear hy
      go_wp2
      go_roundw
      case rel =>
        have hlt := HLT.out
        have hi := HI2.out
        refine ⟨i + v + 1, k + 1, by omega, by go_num, Lib.hid (by rw [HI.out, Nat.mul_succ]; omega), ?_, hB.setCell (p := ⟨w.heap.size, i, none⟩) (Nat.le_refl _) _⟩
        have h := HR.out.put i (.bool true)
        rw [HI.out, evA_put n (v + 1) k (by omega) (by rw [← HI.out, HN.out]; exact hlt), ← HI.out] at h
        exact h
      case measure => have hlt := HLT.out; simp [intOf]; omega
    · have hb1 : decide ((i : Int) < 1048577) = false := by simp; omega
      clear hlt hi
      go_wp2_with fail
      refine (bnew_long wr _ n n (by rw [HN.out]; omega) (by rw [HN.out]; unfold maxLen; omega)).mono ?_
      rintro e w' ⟨rfl, hw'⟩
      rw [hw']; clear hw'
      go_wp2_with fail
      refine (bworks_true _).mono ?_
      rintro e w5 ⟨rfl, hB5⟩
      go_wp2
      go_ret
      exact ⟨rfl, hB.trans (hB5.mono hB.size)⟩
set_option maxRecDepth 100000 in
set_option maxHeartbeats 2000000 in
theorem long_ok (v : Nat) (hv : v < 256) (w : World) :
    Calls Try.prog 5 #[.bool false, .int .u8 (v : Int)] w fun e w' => e = .returned (.bool true) ∧ Below w.heap.size w w' := by
  obtain ⟨n, hn⟩ : ∃ n : Nat, n = 1048576 := ⟨_, rfl⟩
  obtain ⟨C, hC⟩ : ∃ C, evA n (v + 1) 0 = C := ⟨_, rfl⟩
  have hmk := made_ev (v + 1) n 1048576 C (by omega) (by rw [hn]; rfl) hC
  have HC := Lib.hid hC
  have HN := Lib.hid hn; clear hn hC
  go_enter Try.func5, Try.ntmps5
  go_wp2
  clear hmk
  go_loopw [7] (fun x wr => ∃ i k : Nat, i ≤ 1048832 ∧ x = .int .i64 i ∧ Hid (i = (v + 1) * k) ∧ LongSt w wr n (v + 1) i) (fun x _ => 1048832 - (intOf x).toNat)
  case atStart => exact ⟨0, 0, by omega, rfl, Lib.hid rfl, by rw [HC.out]; exact Row.new w _ _, (Below.refl _ _).alloc (Nat.le_refl _) _⟩
  case round =>
    obtain ⟨i, k, hi, rfl, HI, hrow, hB⟩ := hrel
    have HR := Lib.hid hrow; clear hrow
    by_cases hlt : i < 1048576
    · have hin : i < n := by rw [HN.out]; exact hlt
      have hin2 : (i : Int) < (n : Int) := by omega
      have hb1 : decide ((i : Int) < 1048576) = true := by simp; omega
      have hib : i ≤ 4611686018427387904 := by omega
      have HLT := Lib.hid hlt; have HI2 := Lib.hid hi; clear hlt hi
      have hcell : wr.cell? ⟨w.heap.size, i, none⟩ = some (.bool (decide (i % (v + 1) = 0) && decide (i < i))) := (HR.out.cell i).trans (evA_at _ _ _ _ (by rw [HN.out]; exact HLT.out))
      obtain ⟨y, hy⟩ : ∃ y, (decide (i % (v + 1) = 0) && decide (i < i)) = y := ⟨_, rfl⟩
      rw [hy] at hcell
      have hfr := HR.out.frozen i
      clear hy
      go_wp2
      go_roundw
      case rel =>
        have hlt := HLT.out
        have hi := HI2.out
        refine ⟨i + v + 1, k + 1, by omega, by go_num, Lib.hid (by rw [HI.out, Nat.mul_succ]; omega), ?_, hB.setCell (p := ⟨w.heap.size, i, none⟩) (Nat.le_refl _) _⟩
        have h := HR.out.put i (.bool true)
        rw [HI.out, evA_put n (v + 1) k (by omega) (by rw [← HI.out, HN.out]; exact hlt), ← HI.out] at h
        exact h
      case measure => have hlt := HLT.out; simp [intOf]; omega
    · have hb1 : decide ((i : Int) < 1048576) = false := by simp; omega
      have hni : n ≤ i := by rw [HN.out]; omega
      clear hlt hi
      have hsl : Sl wr wr.heap.size (some ⟨w.heap.size, 0, none⟩) n ((evL n (v + 1) n).map Value.bool) := by
        have h := Sl.of_row HR.out n (by rw [evA_size]; exact Nat.le_refl _)
        rw [List.take_of_length_le (by simp [evA, evL_len])] at h
        rw [← evL_full n (v + 1) i hni]
        simpa [evA] using h
      have HSL := Lib.hid hsl; clear hsl hni
      obtain ⟨K, hK⟩ : ∃ K, (n - 1) / (v + 1) = K := ⟨_, rfl⟩
      have hKd : (1048575 : Int) / ((v : Int) + 1) = (K : Int) := by
        rw [← hK, HN.out]
        rfl
      have hKb : K ≤ 1048575 := by rw [← hK, HN.out]; exact Nat.div_le_self _ _
      have hrk : Hid (rk (bitsN (evL n (v + 1) n)) true n = K + 1) := Lib.hid (by rw [ev_all n (v + 1) (by omega) (by rw [HN.out]; omega), hK])
      have hsel : Hid (SelAt (bitsN (evL n (v + 1) n)) n true (K : Int) (((v + 1) * K : Nat) : Int)) := Lib.hid (ev_sel n (v + 1) K (by omega) (by
        have h1 := Nat.mul_div_le (n - 1) (v + 1)
        rw [hK] at h1
        have h2 := HN.out
        omega))
      have hpr : (v + 1) * K ≤ 1048576 := by
        have h1 := Nat.mul_div_le (n - 1) (v + 1)
        rw [hK] at h1
        have h2 := HN.out
        omega
      have HKB := Lib.hid hKb; have HPR := Lib.hid hpr
      clear hK hpr
      obtain ⟨N, hNN⟩ : ∃ N, bitsN (evL n (v + 1) n) = N := ⟨_, rfl⟩
      have hne : ((n : Int) != 1048576) = false := by rw [HN.out]; rfl
      have hnew := bnew_any wr (some ⟨w.heap.size, 0, none⟩) n n (evL n (v + 1) n) (by rw [HN.out]; exact Nat.le_refl _) HSL.out
      rw [hNN] at hnew hrk hsel
      have HNEW := Lib.hid hnew
      clear hNN hnew
      go_wp2_with fail
      refine HNEW.out.mono ?_
      rintro e w1 ⟨b, rfl, hbv, hB1⟩
      have HV := Lib.hid hbv; clear hbv
      have hs1 := hB1.size
      have hB1' := hB.trans (hB1.mono hB.size)
      have hc0 := HV.out.len
      go_wp2_with fail
      refine (blen_any _ _ _ hc0).mono ?_
      rintro e w' ⟨rfl, hw'⟩
      rw [hw']; clear hw'
      have hr := brank_any w1 _ _ b n N HV.out true 1048576 (by decide)
      rw [show clamp 1048576 n = n by have := HN.out; unfold clamp; omega, hrk.out] at hr
      have HR2 := Lib.hid hr; clear hr
      go_wp2_with fail
      refine HR2.out.mono ?_
      rintro e w2 ⟨rfl, hq2⟩
      have HV2 := Lib.hid (HV.out.quiet hq2)
      have hz2 := qsize hq2
      have hB2 := hB1'.trans (qbel _ hq2)
      have hE2 : w1.heap.size ≤ w2.heap.size := by omega
      clear hq2 hz2
      obtain ⟨P, hP⟩ : ∃ P, (v + 1) * K = P := ⟨_, rfl⟩
      have hmul : (K : Int) * ((v : Int) + 1) = (P : Int) := by rw [← hP, Int.natCast_mul, Int.mul_comm]; simp
      have hPb : P ≤ 4611686018427387904 := by rw [← hP]; have := HPR.out; omega
      rw [hP] at hsel
      clear hP
      go_wp2_with fail
      refine (bsel_any w2 _ w1.heap.size b n N HV2.out hE2 true _ (wf_i64 _ (by have := HKB.out; omega))).mono ?_
      rintro e w3 ⟨z, rfl, hz, hB3⟩
      obtain rfl : z = (P : Int) := hz.same hsel.out
      clear hz
      have hs3 := hB3.size
      have HV3 := Lib.hid (HV2.out.below hB3 hE2)
      have hB3' := hB2.trans (hB3.mono hB2.size)
      clear hB3
      go_wp2_with fail
      refine (bsel_any w3 _ w1.heap.size b n N HV3.out (by omega) true _ (wf_i64 (K + 1) (by have := HKB.out; omega))).mono ?_
      rintro e w4 ⟨z, rfl, hz, hB4⟩
      obtain rfl : z = -1 := hz.same (.inl ⟨rfl, .inr (by rw [hrk.out]; exact Int.le_refl _)⟩)
      clear hz
      have hB4' := hB3'.trans (hB4.mono hB3'.size)
      clear hB4
      go_wp2_with fail
      refine (bworks_true _).mono ?_
      rintro e w5 ⟨rfl, hB5⟩
      go_wp2
      go_ret
      exact ⟨rfl, hB4'.trans (hB5.mono hB4'.size)⟩
theorem long_all (m : Bool) (a : Int) (w : World) (ha : (Lit.int .u8 a).wf = true) :
    Calls Try.prog 5 #[.bool m, .int .u8 a] w fun e w' => e = .returned (.bool true) ∧ Below w.heap.size w w' := by
  obtain ⟨v, rfl⟩ : ∃ v : Nat, a = (v : Int) := ⟨a.toNat, by have := nn_u8 a ha; omega⟩
  cases m with
  | true => exact long_more v (lt_u8 v ha) w
  | false => exact long_ok v (lt_u8 v ha) w
end Go.Proofs.Ytofeemmmdbdjdaa.B
