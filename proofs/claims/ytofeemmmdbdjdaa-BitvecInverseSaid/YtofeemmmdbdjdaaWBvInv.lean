/- bitvec: the law BitvecInverse. -/
import Derived.Test.YtofeemmmdbdjdaaBvRef
set_option linter.unusedVariables false
namespace Go.Proofs.Ytofeemmmdbdjdaa.B
open Go.RowKit HK

theorem getB_nat' (N n a : Nat) (h : a < n) : getB N n (a : Int) = N.testBit a := by
  unfold getB
  rw [decide_eq_true (by omega : (0 : Int) ≤ (a : Int)), decide_eq_true (by omega : (a : Int) < (n : Int))]
  simp
theorem sel_bit {N n : Nat} {b : Bool} {k : Int} {r : Nat} (h2 : (rk N b r : Int) = k) (h3 : (rk N b (r + 1) : Int) = k + 1) : N.testBit r = b := by
  have h := rk_step N b r
  cases h4 : (N.testBit r == b) with
  | true => simpa using h4
  | false => rw [h4] at h; simp at h; omega
theorem sel_self (N n a : Nat) (h : a < n) : SelAt N n (N.testBit a) (rk N (N.testBit a) a : Nat) (a : Int) := by
  refine .inr ⟨a, rfl, h, rfl, ?_⟩
  rw [rk_step]
  simp

def InvOk (w : World) (S E b n N : Nat) (wr : World) : Prop := Bv wr S E b n N ∧ Below w.heap.size w wr ∧ E ≤ wr.heap.size

set_option maxHeartbeats 4000000 in
theorem inverse_mid (A : Option Addr) (n c : Nat) (l : List Bool) (i k : Int) (w : World) (hn : n ≤ 3000) (hs : Sl w w.heap.size A n (l.map Value.bool)) (hi : (Lit.int .i64 i).wf = true) (hk : (Lit.int .i64 k).wf = true) :
    Calls Try.prog 8 #[.slice A n c, .int .i64 i, .int .i64 k] w fun e w' => e = .returned (.bool true) ∧ Below w.heap.size w w' := by
  have hri := rg_i64 i hi
  have hrk := rg_i64 k hk
  have hnb : decide ((3000 : Int) < (n : Int)) = false := by simp; omega
  have HS := Lib.hid hs; clear hs
  go_enter Try.func8, Try.ntmps8
  go_wp2_with fail
  refine (bnew_any w A n c l (by omega) HS.out).mono ?_
  rintro e w1 ⟨b, rfl, hbv, hB⟩
  obtain ⟨N, hN⟩ : ∃ N, bitsN l = N := ⟨_, rfl⟩
  rw [hN] at hbv
  have H1 : Hid (InvOk w w.heap.size w1.heap.size b n N w1) := Lib.hid ⟨hbv, hB, Nat.le_refl _⟩
  obtain ⟨E, hE⟩ : ∃ E, w1.heap.size = E := ⟨_, rfl⟩
  rw [hE] at H1
  have hs1 := hB.size
  rw [hE] at hs1
  clear hbv hB hN hE
  go_wp2
  go_loopw [9] (fun x wr => ∃ j : Nat, j ≤ 2 ∧ x = .int .i64 j ∧ InvOk w w.heap.size E b n N wr) (fun x _ => 2 - (intOf x).toNat)
  case atStart => exact ⟨0, by omega, rfl, H1.out⟩
  case round =>
    obtain ⟨j, hj, rfl, hI⟩ := hrel
    have HI := Lib.hid hI; clear hI
    by_cases hlt : j < 2
    · obtain ⟨bb, hbb⟩ : ∃ bb : Bool, ((j : Int) == 1) = bb := ⟨_, rfl⟩
      go_wp2_with fail
      refine (bsel_any wr _ E b n N HI.out.1 HI.out.2.2 _ k hk).mono ?_
      rintro e w2 ⟨z, rfl, hz, hB2⟩
      have hs2 := hB2.size
      have HI2 : Hid (InvOk w w.heap.size E b n N w2) := Lib.hid ⟨HI.out.1.below hB2 HI.out.2.2, HI.out.2.1.trans (hB2.mono HI.out.2.1.size), by have := HI.out.2.2; omega⟩
      clear hB2
      rcases hz with ⟨rfl, -⟩ | ⟨r, rfl, hr, hr2, hr3⟩
      · go_wp2
        go_roundw
        case rel => exact ⟨j + 1, by omega, by go_num, HI2.out⟩
        case measure => simp [intOf]; omega
      · have hbit := sel_bit (n := n) hr2 hr3
        have hg := bget_any w2 _ E b n N HI2.out.1 (r : Int) (wf_i64 _ (by omega))
        rw [getB_nat' N n r hr, hbit] at hg
        have HG := Lib.hid hg; clear hg
        have hm1 : ((r : Int) != -1) = true := by simp
        have hm2 : decide ((r : Int) < 0) = false := by simp
        have hm3 : decide ((n : Int) ≤ (r : Int)) = false := by simp; omega
        have HR2 := Lib.hid hr2; have HR3 := Lib.hid hr3; have HBT := Lib.hid hbit
        clear hr2 hr3 hbit
        go_wp2_with fail
        refine HG.out.mono ?_
        rintro e w3 ⟨rfl, hq3⟩
        have HI3 : Hid (InvOk w w.heap.size E b n N w3) := Lib.hid ⟨HI2.out.1.quiet hq3, HI2.out.2.1.trans (qbel _ hq3), by have := HI2.out.2.2; rw [qsize hq3]; exact this⟩
        clear hq3
        have hrr := brank_any w3 _ E b n N HI3.out.1 bb (r : Int) (wf_i64 _ (by omega))
        rw [clamp_nat _ _ (by omega), HR2.out] at hrr
        have HRR := Lib.hid hrr; clear hrr
        go_wp2_with fail
        refine HRR.out.mono ?_
        rintro e w4 ⟨rfl, hq4⟩
        have HI4 : Hid (InvOk w w.heap.size E b n N w4) := Lib.hid ⟨HI3.out.1.quiet hq4, HI3.out.2.1.trans (qbel _ hq4), by have := HI3.out.2.2; rw [qsize hq4]; exact this⟩
        clear hq4
        go_wp2
        go_roundw
        case rel => exact ⟨j + 1, by omega, by go_num, HI4.out⟩
        case measure => simp [intOf]; omega
    · obtain rfl : j = 2 := by omega
      by_cases h0 : i < 0
      · have hb0 : decide (i < 0) = true := by simpa using h0
        go_wp2_with fail
        refine (bworks_true wr).mono ?_
        rintro e w4 ⟨rfl, hB4⟩
        go_wp2
        go_ret
        exact ⟨rfl, HI.out.2.1.trans (hB4.mono HI.out.2.1.size)⟩
      · have hb0 : decide (i < 0) = false := by simpa using h0
        by_cases h1 : (n : Int) ≤ i
        · have hb1 : decide ((n : Int) ≤ i) = true := by simpa using h1
          go_wp2_with fail
          refine (bworks_true wr).mono ?_
          rintro e w4 ⟨rfl, hB4⟩
          go_wp2
          go_ret
          exact ⟨rfl, HI.out.2.1.trans (hB4.mono HI.out.2.1.size)⟩
        · have hb1 : decide ((n : Int) ≤ i) = false := by simpa using h1
          obtain ⟨a, rfl⟩ : ∃ a : Nat, i = (a : Int) := ⟨i.toNat, by omega⟩
          have han : a < n := by omega
          have hga : getB N n (a : Int) = N.testBit a := getB_nat' N n a han
          obtain ⟨bt, hbt⟩ : ∃ bt, N.testBit a = bt := ⟨_, rfl⟩
          have hg1 := bget_any wr _ E b n N HI.out.1 (a : Int) hi
          rw [hga, hbt] at hg1
          have HG1 := Lib.hid hg1; clear hg1
          have hself := sel_self N n a han
          rw [hbt] at hself hga
          have HSELF := Lib.hid hself; clear hself
          have HGA := Lib.hid hga; clear hga hbt
          go_wp2_with fail
          refine HG1.out.mono ?_
          rintro e w2 ⟨rfl, hq2⟩
          have HI2 : Hid (InvOk w w.heap.size E b n N w2) := Lib.hid ⟨HI.out.1.quiet hq2, HI.out.2.1.trans (qbel _ hq2), by have := HI.out.2.2; rw [qsize hq2]; exact this⟩
          clear hq2
          have hg2 := bget_any w2 _ E b n N HI2.out.1 (a : Int) hi
          rw [HGA.out] at hg2
          have HG2 := Lib.hid hg2; clear hg2
          go_wp2_with fail
          refine HG2.out.mono ?_
          rintro e w3 ⟨rfl, hq3⟩
          have HI3 : Hid (InvOk w w.heap.size E b n N w3) := Lib.hid ⟨HI2.out.1.quiet hq3, HI2.out.2.1.trans (qbel _ hq3), by have := HI2.out.2.2; rw [qsize hq3]; exact this⟩
          clear hq3
          have hr4 := brank_any w3 _ E b n N HI3.out.1 bt (a : Int) hi
          rw [clamp_nat _ _ (by omega)] at hr4
          have HR4 := Lib.hid hr4; clear hr4
          have hrb := rk_le N bt a
          go_wp2_with fail
          refine HR4.out.mono ?_
          rintro e w4 ⟨rfl, hq4⟩
          have HI4 : Hid (InvOk w w.heap.size E b n N w4) := Lib.hid ⟨HI3.out.1.quiet hq4, HI3.out.2.1.trans (qbel _ hq4), by have := HI3.out.2.2; rw [qsize hq4]; exact this⟩
          clear hq4
          go_wp2_with fail
          refine (bsel_any w4 _ E b n N HI4.out.1 HI4.out.2.2 bt _ (wf_i64 _ (by omega))).mono ?_
          rintro e w5 ⟨z, rfl, hz, hB5⟩
          obtain rfl : z = (a : Int) := hz.same HSELF.out
          clear hz
          have hB5' := HI4.out.2.1.trans (hB5.mono HI4.out.2.1.size)
          go_wp2_with fail
          refine (bworks_true w5).mono ?_
          rintro e w6 ⟨rfl, hB6⟩
          go_wp2
          go_ret
          exact ⟨rfl, hB5'.trans (hB6.mono hB5'.size)⟩

theorem inverse_all (A : Option Addr) (n c : Nat) (l : List Bool) (i k : Int) (w : World) (hm : n ≤ maxLen) (hs : Sl w w.heap.size A n (l.map Value.bool)) (hi : (Lit.int .i64 i).wf = true) (hk : (Lit.int .i64 k).wf = true) :
    Calls Try.prog 8 #[.slice A n c, .int .i64 i, .int .i64 k] w fun e w' => e = .returned (.bool true) ∧ Below w.heap.size w w' := by
  by_cases hbig : 3000 < n
  · unfold maxLen at hm
    have hnb : decide ((3000 : Int) < (n : Int)) = true := by simp; omega
    clear hs
    go_enter Try.func8, Try.ntmps8
    go_wp2
    go_ret
    exact ⟨rfl, Below.refl _ _⟩
  · exact inverse_mid A n c l i k w (by omega) hs hi hk
end Go.Proofs.Ytofeemmmdbdjdaa.B
