/- bitvec: the law BitvecSums. -/
import Derived.Test.YtofeemmmdbdjdaaBvRef
set_option linter.unusedVariables false
namespace Go.Proofs.Ytofeemmmdbdjdaa.B
open Go.RowKit HK

theorem rk_next (N a : Nat) : rk N (N.testBit a) (a + 1) = rk N (N.testBit a) a + 1 := by rw [rk_step]; simp
theorem rk_other (N a : Nat) : rk N (!N.testBit a) (a + 1) = rk N (!N.testBit a) a := by rw [rk_step]; cases N.testBit a <;> simp
theorem getB_nat (N n a : Nat) (h : a < n) : getB N n (a : Int) = N.testBit a := by
  unfold getB
  rw [decide_eq_true (by omega : (0 : Int) ≤ (a : Int)), decide_eq_true (by omega : (a : Int) < (n : Int))]
  simp

set_option maxHeartbeats 2000000 in
theorem sums_over (A : Option Addr) (n c : Nat) (l : List Bool) (i : Int) (hin : (n : Int) < i) (w : World) (hn : n ≤ 3000) (hs : Sl w w.heap.size A n (l.map Value.bool)) (hi : (Lit.int .i64 (i)).wf = true) :
    Calls Try.prog 9 #[.slice A n c, .int .i64 (i)] w fun e w' => e = .returned (.bool true) ∧ Below w.heap.size w w' := by
  have hri := rg_i64 _ hi
  have hnb : decide ((3000 : Int) < (n : Int)) = false := by simp; omega
  have HS := Lib.hid hs; clear hs
  have hcl : clamp (i) n = n := by unfold clamp; omega
  have hx : ¬ i < 0 := by omega
  go_enter Try.func9, Try.ntmps9
  go_wp2_with fail
  refine (bnew_any w A n c l (by omega) HS.out).mono ?_
  rintro e w1 ⟨b, rfl, hbv, hB⟩
  obtain ⟨N, hN⟩ : ∃ N, bitsN l = N := ⟨_, rfl⟩
  rw [hN] at hbv
  obtain ⟨E, hE⟩ : ∃ E, w1.heap.size = E := ⟨_, rfl⟩
  rw [hE] at hbv
  have H := Lib.hid hbv; clear hbv hN
  have h1 := brank_any w1 _ E b n N H.out true (i) hi
  rw [hcl] at h1
  have H1 := Lib.hid h1; clear h1
  have hr1 := rk_le N true (n)
  have hr2 := rk_le N false (n)
  have hsum := rk_sum N (n)
  obtain ⟨x1, hx1⟩ : ∃ x1, rk N true (n) = x1 := ⟨_, rfl⟩
  obtain ⟨x2, hx2⟩ : ∃ x2, rk N false (n) = x2 := ⟨_, rfl⟩
  rw [hx1] at H1 hr1 hsum
  rw [hx2] at hr2 hsum
  go_wp2_with fail
  refine H1.out.mono ?_
  rintro e w2 ⟨rfl, hq2⟩
  have H2 := Lib.hid (H.out.quiet hq2)
  have hB2 := hB.trans (qbel _ hq2)
  have hz2 := qsize hq2
  clear hq2
  have h2 := brank_any w2 _ E b n N H2.out false (i) hi
  rw [hcl, hx2] at h2
  have HR2 := Lib.hid h2; clear h2
  have HX1 := Lib.hid hx1; clear hx1
  have HX2 := Lib.hid hx2; clear hx2
  clear hcl
  go_wp2_with fail
  refine HR2.out.mono ?_
  rintro e w3 ⟨rfl, hq3⟩
  have H3 := Lib.hid (H2.out.quiet hq3)
  have hB3 := hB2.trans (qbel _ hq3)
  clear hq3
  have hsi : ((x1 : Int) + (x2 : Int)) = (n : Int) := by omega
  have hsn : ((x1 : Int) + (x2 : Int) != (n : Int)) = false := by rw [hsi]; simp
  go_wp2_with fail
  refine (bworks_true w3).mono ?_
  rintro e w4 ⟨rfl, hB4⟩
  go_wp2
  go_ret
  exact ⟨rfl, hB3.trans (hB4.mono hB3.size)⟩

set_option maxHeartbeats 2000000 in
theorem sums_eq (A : Option Addr) (n c : Nat) (l : List Bool)  (w : World) (hn : n ≤ 3000) (hs : Sl w w.heap.size A n (l.map Value.bool)) (hi : (Lit.int .i64 ((n : Int))).wf = true) :
    Calls Try.prog 9 #[.slice A n c, .int .i64 ((n : Int))] w fun e w' => e = .returned (.bool true) ∧ Below w.heap.size w w' := by
  have hri := rg_i64 _ hi
  have hnb : decide ((3000 : Int) < (n : Int)) = false := by simp; omega
  have HS := Lib.hid hs; clear hs
  have hcl : clamp ((n : Int)) n = n := by unfold clamp; omega

  go_enter Try.func9, Try.ntmps9
  go_wp2_with fail
  refine (bnew_any w A n c l (by omega) HS.out).mono ?_
  rintro e w1 ⟨b, rfl, hbv, hB⟩
  obtain ⟨N, hN⟩ : ∃ N, bitsN l = N := ⟨_, rfl⟩
  rw [hN] at hbv
  obtain ⟨E, hE⟩ : ∃ E, w1.heap.size = E := ⟨_, rfl⟩
  rw [hE] at hbv
  have H := Lib.hid hbv; clear hbv hN
  have h1 := brank_any w1 _ E b n N H.out true ((n : Int)) hi
  rw [hcl] at h1
  have H1 := Lib.hid h1; clear h1
  have hr1 := rk_le N true (n)
  have hr2 := rk_le N false (n)
  have hsum := rk_sum N (n)
  obtain ⟨x1, hx1⟩ : ∃ x1, rk N true (n) = x1 := ⟨_, rfl⟩
  obtain ⟨x2, hx2⟩ : ∃ x2, rk N false (n) = x2 := ⟨_, rfl⟩
  rw [hx1] at H1 hr1 hsum
  rw [hx2] at hr2 hsum
  go_wp2_with fail
  refine H1.out.mono ?_
  rintro e w2 ⟨rfl, hq2⟩
  have H2 := Lib.hid (H.out.quiet hq2)
  have hB2 := hB.trans (qbel _ hq2)
  have hz2 := qsize hq2
  clear hq2
  have h2 := brank_any w2 _ E b n N H2.out false ((n : Int)) hi
  rw [hcl, hx2] at h2
  have HR2 := Lib.hid h2; clear h2
  have HX1 := Lib.hid hx1; clear hx1
  have HX2 := Lib.hid hx2; clear hx2
  clear hcl
  go_wp2_with fail
  refine HR2.out.mono ?_
  rintro e w3 ⟨rfl, hq3⟩
  have H3 := Lib.hid (H2.out.quiet hq3)
  have hB3 := hB2.trans (qbel _ hq3)
  clear hq3
  have hsi : ((x1 : Int) + (x2 : Int)) = (n : Int) := by omega
  have hsn : ((x1 : Int) + (x2 : Int) != (n : Int)) = false := by rw [hsi]; simp
  go_wp2_with fail
  refine (bworks_true w3).mono ?_
  rintro e w4 ⟨rfl, hB4⟩
  go_wp2
  go_ret
  exact ⟨rfl, hB3.trans (hB4.mono hB3.size)⟩

set_option maxHeartbeats 2000000 in
theorem sums_mid (A : Option Addr) (n c : Nat) (l : List Bool) (C : Nat) (hC : C < n) (w : World) (hn : n ≤ 3000) (hs : Sl w w.heap.size A n (l.map Value.bool)) (hi : (Lit.int .i64 ((C : Int))).wf = true) :
    Calls Try.prog 9 #[.slice A n c, .int .i64 ((C : Int))] w fun e w' => e = .returned (.bool true) ∧ Below w.heap.size w w' := by
  have hri := rg_i64 _ hi
  have hnb : decide ((3000 : Int) < (n : Int)) = false := by simp; omega
  have HS := Lib.hid hs; clear hs
  have hcl : clamp ((C : Int)) n = C := by unfold clamp; omega
  have hx : ¬ (n : Int) < (C : Int) := by omega
  go_enter Try.func9, Try.ntmps9
  go_wp2_with fail
  refine (bnew_any w A n c l (by omega) HS.out).mono ?_
  rintro e w1 ⟨b, rfl, hbv, hB⟩
  obtain ⟨N, hN⟩ : ∃ N, bitsN l = N := ⟨_, rfl⟩
  rw [hN] at hbv
  obtain ⟨E, hE⟩ : ∃ E, w1.heap.size = E := ⟨_, rfl⟩
  rw [hE] at hbv
  have H := Lib.hid hbv; clear hbv hN
  have h1 := brank_any w1 _ E b n N H.out true ((C : Int)) hi
  rw [hcl] at h1
  have H1 := Lib.hid h1; clear h1
  have hr1 := rk_le N true (C)
  have hr2 := rk_le N false (C)
  have hsum := rk_sum N (C)
  obtain ⟨x1, hx1⟩ : ∃ x1, rk N true (C) = x1 := ⟨_, rfl⟩
  obtain ⟨x2, hx2⟩ : ∃ x2, rk N false (C) = x2 := ⟨_, rfl⟩
  rw [hx1] at H1 hr1 hsum
  rw [hx2] at hr2 hsum
  go_wp2_with fail
  refine H1.out.mono ?_
  rintro e w2 ⟨rfl, hq2⟩
  have H2 := Lib.hid (H.out.quiet hq2)
  have hB2 := hB.trans (qbel _ hq2)
  have hz2 := qsize hq2
  clear hq2
  have h2 := brank_any w2 _ E b n N H2.out false ((C : Int)) hi
  rw [hcl, hx2] at h2
  have HR2 := Lib.hid h2; clear h2
  have HX1 := Lib.hid hx1; clear hx1
  have HX2 := Lib.hid hx2; clear hx2
  clear hcl
  go_wp2_with fail
  refine HR2.out.mono ?_
  rintro e w3 ⟨rfl, hq3⟩
  have H3 := Lib.hid (H2.out.quiet hq3)
  have hB3 := hB2.trans (qbel _ hq3)
  clear hq3
  have hsi : ((x1 : Int) + (x2 : Int)) = (C : Int) := by omega
  have hsn : ((x1 : Int) + (x2 : Int) != (C : Int)) = false := by rw [hsi]; simp
  have h4 := bget_any w3 _ E b n N H3.out (C : Int) (by first | decide | exact wf_i64 _ (by omega))
  rw [show getB N n (C : Int) = N.testBit (C) from getB_nat N n C (by omega)] at h4
  have HG := Lib.hid h4; clear h4
  obtain ⟨bt, hbt⟩ : ∃ bt, N.testBit (C) = bt := ⟨_, rfl⟩
  have hnx := rk_next N (C)
  have hot := rk_other N (C)
  rw [hbt] at HG hnx hot
  have HNX := Lib.hid hnx; clear hnx
  have HOT := Lib.hid hot; clear hot
  have hrb := rk_le N bt (C)
  have hrb2 := rk_le N (!bt) (C)
  clear hbt
  go_wp2_with fail
  refine HG.out.mono ?_
  rintro e w4 ⟨rfl, hq4⟩
  have H4 := Lib.hid (H3.out.quiet hq4)
  have hB4 := hB3.trans (qbel _ hq4)
  clear hq4
  have h5 := brank_any w4 _ E b n N H4.out bt ((C + 1 : Nat) : Int) (wf_i64 _ (by omega))
  rw [clamp_nat _ _ (by omega), HNX.out] at h5
  have HR5 := Lib.hid h5; clear h5
  go_wp2_with fail
  refine HR5.out.mono ?_
  rintro e w5 ⟨rfl, hq5⟩
  have H5 := Lib.hid (H4.out.quiet hq5)
  have hB5 := hB4.trans (qbel _ hq5)
  clear hq5
  have h6 := brank_any w5 _ E b n N H5.out bt ((C : Nat) : Int) (wf_i64 _ (by omega))
  rw [clamp_nat _ _ (by omega)] at h6
  have HR6 := Lib.hid h6; clear h6
  go_wp2_with fail
  refine HR6.out.mono ?_
  rintro e w6 ⟨rfl, hq6⟩
  have H6 := Lib.hid (H5.out.quiet hq6)
  have hB6 := hB5.trans (qbel _ hq6)
  clear hq6
  have h7 := brank_any w6 _ E b n N H6.out (!bt) ((C + 1 : Nat) : Int) (wf_i64 _ (by omega))
  rw [clamp_nat _ _ (by omega), HOT.out] at h7
  have HR7 := Lib.hid h7; clear h7
  go_wp2_with fail
  refine HR7.out.mono ?_
  rintro e w7 ⟨rfl, hq7⟩
  have H7 := Lib.hid (H6.out.quiet hq7)
  have hB7 := hB6.trans (qbel _ hq7)
  clear hq7
  have h8 := brank_any w7 _ E b n N H7.out (!bt) ((C : Nat) : Int) (wf_i64 _ (by omega))
  rw [clamp_nat _ _ (by omega)] at h8
  have HR8 := Lib.hid h8; clear h8
  go_wp2_with fail
  refine HR8.out.mono ?_
  rintro e w8 ⟨rfl, hq8⟩
  have hB8 := hB7.trans (qbel _ hq8)
  clear hq8
  go_wp2_with fail
  refine (bworks_true w8).mono ?_
  rintro e w9 ⟨rfl, hB9⟩
  go_wp2
  go_ret
  exact ⟨rfl, hB8.trans (hB9.mono hB8.size)⟩

set_option maxHeartbeats 2000000 in
theorem sums_neg (A : Option Addr) (n c : Nat) (l : List Bool) (i : Int) (hin : i < 0) (hn0 : 0 < n) (w : World) (hn : n ≤ 3000) (hs : Sl w w.heap.size A n (l.map Value.bool)) (hi : (Lit.int .i64 (i)).wf = true) :
    Calls Try.prog 9 #[.slice A n c, .int .i64 (i)] w fun e w' => e = .returned (.bool true) ∧ Below w.heap.size w w' := by
  have hri := rg_i64 _ hi
  have hnb : decide ((3000 : Int) < (n : Int)) = false := by simp; omega
  have HS := Lib.hid hs; clear hs
  have hcl : clamp (i) n = 0 := by unfold clamp; omega

  go_enter Try.func9, Try.ntmps9
  go_wp2_with fail
  refine (bnew_any w A n c l (by omega) HS.out).mono ?_
  rintro e w1 ⟨b, rfl, hbv, hB⟩
  obtain ⟨N, hN⟩ : ∃ N, bitsN l = N := ⟨_, rfl⟩
  rw [hN] at hbv
  obtain ⟨E, hE⟩ : ∃ E, w1.heap.size = E := ⟨_, rfl⟩
  rw [hE] at hbv
  have H := Lib.hid hbv; clear hbv hN
  have h1 := brank_any w1 _ E b n N H.out true (i) hi
  rw [hcl] at h1
  have H1 := Lib.hid h1; clear h1
  have hr1 := rk_le N true (0)
  have hr2 := rk_le N false (0)
  have hsum := rk_sum N (0)
  obtain ⟨x1, hx1⟩ : ∃ x1, rk N true (0) = x1 := ⟨_, rfl⟩
  obtain ⟨x2, hx2⟩ : ∃ x2, rk N false (0) = x2 := ⟨_, rfl⟩
  rw [hx1] at H1 hr1 hsum
  rw [hx2] at hr2 hsum
  go_wp2_with fail
  refine H1.out.mono ?_
  rintro e w2 ⟨rfl, hq2⟩
  have H2 := Lib.hid (H.out.quiet hq2)
  have hB2 := hB.trans (qbel _ hq2)
  have hz2 := qsize hq2
  clear hq2
  have h2 := brank_any w2 _ E b n N H2.out false (i) hi
  rw [hcl, hx2] at h2
  have HR2 := Lib.hid h2; clear h2
  have HX1 := Lib.hid hx1; clear hx1
  have HX2 := Lib.hid hx2; clear hx2
  clear hcl
  go_wp2_with fail
  refine HR2.out.mono ?_
  rintro e w3 ⟨rfl, hq3⟩
  have H3 := Lib.hid (H2.out.quiet hq3)
  have hB3 := hB2.trans (qbel _ hq3)
  clear hq3
  have hsi : ((x1 : Int) + (x2 : Int)) = 0 := by omega
  have hsn : ((x1 : Int) + (x2 : Int) != 0) = false := by rw [hsi]; simp
  have h4 := bget_any w3 _ E b n N H3.out 0 (by first | decide | exact wf_i64 _ (by omega))
  rw [show getB N n 0 = N.testBit (0) from getB_nat N n 0 (by omega)] at h4
  have HG := Lib.hid h4; clear h4
  obtain ⟨bt, hbt⟩ : ∃ bt, N.testBit (0) = bt := ⟨_, rfl⟩
  have hnx := rk_next N (0)
  have hot := rk_other N (0)
  rw [hbt] at HG hnx hot
  have HNX := Lib.hid hnx; clear hnx
  have HOT := Lib.hid hot; clear hot
  have hrb := rk_le N bt (0)
  have hrb2 := rk_le N (!bt) (0)
  clear hbt
  go_wp2_with fail
  refine HG.out.mono ?_
  rintro e w4 ⟨rfl, hq4⟩
  have H4 := Lib.hid (H3.out.quiet hq4)
  have hB4 := hB3.trans (qbel _ hq4)
  clear hq4
  have h5 := brank_any w4 _ E b n N H4.out bt ((0 + 1 : Nat) : Int) (wf_i64 _ (by omega))
  rw [clamp_nat _ _ (by omega), HNX.out] at h5
  have HR5 := Lib.hid h5; clear h5
  go_wp2_with fail
  refine HR5.out.mono ?_
  rintro e w5 ⟨rfl, hq5⟩
  have H5 := Lib.hid (H4.out.quiet hq5)
  have hB5 := hB4.trans (qbel _ hq5)
  clear hq5
  have h6 := brank_any w5 _ E b n N H5.out bt ((0 : Nat) : Int) (wf_i64 _ (by omega))
  rw [clamp_nat _ _ (by omega)] at h6
  have HR6 := Lib.hid h6; clear h6
  go_wp2_with fail
  refine HR6.out.mono ?_
  rintro e w6 ⟨rfl, hq6⟩
  have H6 := Lib.hid (H5.out.quiet hq6)
  have hB6 := hB5.trans (qbel _ hq6)
  clear hq6
  have h7 := brank_any w6 _ E b n N H6.out (!bt) ((0 + 1 : Nat) : Int) (wf_i64 _ (by omega))
  rw [clamp_nat _ _ (by omega), HOT.out] at h7
  have HR7 := Lib.hid h7; clear h7
  go_wp2_with fail
  refine HR7.out.mono ?_
  rintro e w7 ⟨rfl, hq7⟩
  have H7 := Lib.hid (H6.out.quiet hq7)
  have hB7 := hB6.trans (qbel _ hq7)
  clear hq7
  have h8 := brank_any w7 _ E b n N H7.out (!bt) ((0 : Nat) : Int) (wf_i64 _ (by omega))
  rw [clamp_nat _ _ (by omega)] at h8
  have HR8 := Lib.hid h8; clear h8
  go_wp2_with fail
  refine HR8.out.mono ?_
  rintro e w8 ⟨rfl, hq8⟩
  have hB8 := hB7.trans (qbel _ hq8)
  clear hq8
  go_wp2_with fail
  refine (bworks_true w8).mono ?_
  rintro e w9 ⟨rfl, hB9⟩
  go_wp2
  go_ret
  exact ⟨rfl, hB8.trans (hB9.mono hB8.size)⟩

set_option maxHeartbeats 2000000 in
theorem sums_neg0 (A : Option Addr) (c : Nat) (l : List Bool) (i : Int) (hin : i < 0) (w : World)  (hs : Sl w w.heap.size A 0 (l.map Value.bool)) (hi : (Lit.int .i64 (i)).wf = true) :
    Calls Try.prog 9 #[.slice A 0 c, .int .i64 (i)] w fun e w' => e = .returned (.bool true) ∧ Below w.heap.size w w' := by
  have hri := rg_i64 _ hi
  have HS := Lib.hid hs; clear hs
  have hcl : clamp (i) 0 = 0 := by unfold clamp; omega

  go_enter Try.func9, Try.ntmps9
  go_wp2_with fail
  refine (bnew_any w A 0 c l (by omega) HS.out).mono ?_
  rintro e w1 ⟨b, rfl, hbv, hB⟩
  obtain ⟨N, hN⟩ : ∃ N, bitsN l = N := ⟨_, rfl⟩
  rw [hN] at hbv
  obtain ⟨E, hE⟩ : ∃ E, w1.heap.size = E := ⟨_, rfl⟩
  rw [hE] at hbv
  have H := Lib.hid hbv; clear hbv hN
  have h1 := brank_any w1 _ E b 0 N H.out true (i) hi
  rw [hcl] at h1
  have H1 := Lib.hid h1; clear h1
  have hr1 := rk_le N true (0)
  have hr2 := rk_le N false (0)
  have hsum := rk_sum N (0)
  obtain ⟨x1, hx1⟩ : ∃ x1, rk N true (0) = x1 := ⟨_, rfl⟩
  obtain ⟨x2, hx2⟩ : ∃ x2, rk N false (0) = x2 := ⟨_, rfl⟩
  rw [hx1] at H1 hr1 hsum
  rw [hx2] at hr2 hsum
  go_wp2_with fail
  refine H1.out.mono ?_
  rintro e w2 ⟨rfl, hq2⟩
  have H2 := Lib.hid (H.out.quiet hq2)
  have hB2 := hB.trans (qbel _ hq2)
  have hz2 := qsize hq2
  clear hq2
  have h2 := brank_any w2 _ E b 0 N H2.out false (i) hi
  rw [hcl, hx2] at h2
  have HR2 := Lib.hid h2; clear h2
  have HX1 := Lib.hid hx1; clear hx1
  have HX2 := Lib.hid hx2; clear hx2
  clear hcl
  go_wp2_with fail
  refine HR2.out.mono ?_
  rintro e w3 ⟨rfl, hq3⟩
  have H3 := Lib.hid (H2.out.quiet hq3)
  have hB3 := hB2.trans (qbel _ hq3)
  clear hq3
  have hsi : ((x1 : Int) + (x2 : Int)) = 0 := by omega
  have hsn : ((x1 : Int) + (x2 : Int) != 0) = false := by rw [hsi]; simp
  go_wp2_with fail
  refine (bworks_true w3).mono ?_
  rintro e w4 ⟨rfl, hB4⟩
  go_wp2
  go_ret
  exact ⟨rfl, hB3.trans (hB4.mono hB3.size)⟩

theorem sums_all (A : Option Addr) (n c : Nat) (l : List Bool) (i : Int) (w : World) (hm : n ≤ maxLen) (hs : Sl w w.heap.size A n (l.map Value.bool)) (hi : (Lit.int .i64 i).wf = true) :
    Calls Try.prog 9 #[.slice A n c, .int .i64 i] w fun e w' => e = .returned (.bool true) ∧ Below w.heap.size w w' := by
  by_cases hbig : 3000 < n
  · unfold maxLen at hm
    have hnb : decide ((3000 : Int) < (n : Int)) = true := by simp; omega
    clear hs
    go_enter Try.func9, Try.ntmps9
    go_wp2
    go_ret
    exact ⟨rfl, Below.refl _ _⟩
  · by_cases h0 : i < 0
    · by_cases hn0 : n = 0
      · subst hn0
        exact sums_neg0 A c l i h0 w hs hi
      · exact sums_neg A n c l i h0 (by omega) w (by omega) hs hi
    · by_cases h1 : (n : Int) ≤ i
      · by_cases h2 : i = (n : Int)
        · subst h2
          exact sums_eq A n c l w (by omega) hs hi
        · exact sums_over A n c l i (by omega) w (by omega) hs hi
      · obtain ⟨C, rfl⟩ : ∃ C : Nat, i = (C : Int) := ⟨i.toNat, by omega⟩
        exact sums_mid A n c l C (by omega) w (by omega) hs hi
end Go.Proofs.Ytofeemmmdbdjdaa.B
