/- bitvec: Rank, Get. -/
import Derived.Test.YtpnkjfjkeoleaaaGBvA
set_option linter.unusedVariables false
set_option maxRecDepth 100000
namespace Go.Proofs.Ytpnkjfjkeoleaaa.B
open Go.RowKit HK

set_option maxHeartbeats 400000 in
theorem bnew_long (w : World) (A : Option Addr) (n c : Nat) (hn : 1048576 < n) (hb : n ≤ maxLen) :
    Calls Try.prog 51 #[.slice A n c] w fun e w' => e = .returned (.tuple #[.pointer none, .int .i64 2]) ∧ w' = w := by
  have hnb : decide ((1048576 : Int) < (n : Int)) = true := by simp; omega
  go_enter Try.func51, Try.ntmps51
  go_wp2
  go_ret2
  exact ⟨rfl, rfl⟩

theorem wrap_shl (x s : Nat) : IntKind.u64.wrap ((x : Int) * 2 ^ s) = ((x * 2 ^ s % 2 ^ 64 : Nat) : Int) := by rw [IntKind.wrap_u64]; simp
theorem last_sum (N a : Nat) (ha : 1 ≤ a) : cnt N (64 * ((a - 1) / 64)) + cnt (word N ((a - 1) / 64) * 2 ^ (63 - (a - 1) % 64) % 2 ^ 64) 64 = cnt N a := by
  have h1 := cnt_shift (word N ((a - 1) / 64)) (63 - (a - 1) % 64) ((a - 1) % 64 + 1) (by omega)
  rw [show 63 - (a - 1) % 64 + ((a - 1) % 64 + 1) = 64 by omega] at h1
  rw [h1, cnt_word N _ _ (by omega)]
  congr 1
  omega
set_option maxHeartbeats 1000000 in
theorem brank_walk (w : World) (b n m N : Nat) (c1 c2 : Nat) (g1 o1 g2 o2 : Nat) (i : Int) (a : Nat) (bb : Bool) (hn : n ≤ 1048576) (hm : m = (n + 63) / 64)
    (hc0 : w.cell? ⟨b, 0, none⟩ = some (.int .i64 n)) (hc1 : w.cell? ⟨b, 1, none⟩ = some (.slice (some ⟨g1, o1, none⟩) m c1)) (hc2 : w.cell? ⟨b, 2, none⟩ = some (.slice (some ⟨g2, o2, none⟩) ((m + 7) / 8) c2))
    (hw : ∀ k, k < m → w.cell? ⟨g1, o1 + k, none⟩ = some (.int .u64 (word N k))) (hc : ∀ k, k < (m + 7) / 8 → w.cell? ⟨g2, o2 + k, none⟩ = some (.int .i64 (cnt N (512 * k))))
    (ha : 1 ≤ a) (han : a ≤ n) (hia : i = (a : Int) ∨ ((n : Int) < i ∧ a = n)) :
    Calls Try.prog 56 #[.pointer (some ⟨b, 0, none⟩), .bool bb, .int .i64 i] w fun e w' => e = .returned (.int .i64 (rk N bb a : Nat)) ∧ ∃ k, w' = w.drewN k := by
  have hlast : (a - 1) / 64 < m := by omega
  have hcc : w.cell? ⟨g2, o2 + (a - 1) / 64 / 8, none⟩ = some (.int .i64 (cnt N (512 * ((a - 1) / 64 / 8)))) := hc _ (by omega)
  have hww : w.cell? ⟨g1, o1 + (a - 1) / 64, none⟩ = some (.int .u64 (word N ((a - 1) / 64))) := hw _ (by omega)
  have HW := Lib.hid hw; clear hw
  have HM := Lib.hid hm; clear hm
  have haz : ((a : Int) == 0) = false := by simp; omega
  clear hc
  rcases hia with rfl | ⟨hlt, rfl⟩
  · have hx : ¬ (n : Int) < (a : Int) := by omega
    go_enter Try.func56, Try.ntmps56
    go_wp2_with fail
    refine (blen_any w b n hc0).mono ?_
    rintro e w' ⟨rfl, rfl⟩
    go_wp2
    clear hcc hc2
    go_loop [8, 9] (fun x i => ∃ k : Nat, (a - 1) / 64 / 8 * 8 ≤ k ∧ k ≤ (a - 1) / 64 ∧ i = .int .i64 k ∧ x = .int .i64 (cnt N (64 * k) : Nat)) (fun _ i => (a - 1) / 64 - (intOf i).toNat)
    case atStart => exact ⟨(a - 1) / 64 / 8 * 8, Nat.le_refl _, by omega, by congr 1; omega, by congr 3; omega⟩
    case round =>
      obtain ⟨k, hk0, hk, rfl, rfl⟩ := hrel
      have hcb : cnt N (64 * k) ≤ 64 * k := cnt_le _ _
      by_cases hkl : k < (a - 1) / 64
      · have hkb : decide ((k : Int) < ((a : Int) - 1) / 64) = true := by simp; omega
        have hwk := HW.out k (by omega)
        have hc64 : cnt (word N k) 64 ≤ 64 := cnt_le _ _
        have hadd : Hid (cnt N (64 * k) + cnt (word N k) 64 = cnt N (64 * (k + 1))) := Lib.hid (by rw [cnt_word N k 64 (Nat.le_refl _), Nat.mul_succ])
        go_wp2_with fail
        refine (ones_any _ _ (word_lt N k)).mono ?_
        rintro e w'' ⟨rfl, rfl⟩
        go_wp2
        go_round
        case rel => exact ⟨k + 1, by omega, by omega, by go_num, by rw [← hadd.out]; go_num⟩
        case measure => simp [intOf]; omega
      · obtain rfl : k = (a - 1) / 64 := by omega
        have hkb : decide (((((a - 1) / 64 : Nat)) : Int) < ((a : Int) - 1) / 64) = false := by simp; omega
        have hsum : Hid (cnt N (64 * ((a - 1) / 64)) + cnt (word N ((a - 1) / 64) * 2 ^ (63 - (a - 1) % 64) % 2 ^ 64) 64 = cnt N a) := Lib.hid (last_sum N a ha)
        have hca : cnt N a ≤ a := cnt_le _ _
        have hsum0 : cnt N (64 * ((a - 1) / 64)) + cnt (word N ((a - 1) / 64) * 2 ^ (63 - (a - 1) % 64) % 2 ^ 64) 64 ≤ 1048576 := by rw [hsum.out]; omega
        go_wp2_with fail
        rw [wrap_shl]
        refine (ones_any _ _ (Nat.mod_lt _ (by decide))).mono ?_
        rintro e w'' ⟨rfl, rfl⟩
        obtain ⟨p, hp⟩ : ∃ p, cnt N (64 * ((a - 1) / 64)) = p := ⟨_, rfl⟩
        obtain ⟨q, hq⟩ : ∃ q, cnt (word N ((a - 1) / 64) * 2 ^ (63 - (a - 1) % 64) % 2 ^ 64) 64 = q := ⟨_, rfl⟩
        rw [hp, hq] at hsum hsum0
        rw [hq]
        try rw [hp]
        have HP := Lib.hid hp
        have HQ := Lib.hid hq
        clear hp hq
        cases bb with
        | true =>
          go_wp2
          go_ret
          refine ⟨?_, 0, rfl⟩
          unfold rk
          rw [if_pos rfl, ← hsum.out]
          first | rfl | (rw [HP.out]; rfl) | go_num
        | false =>
          go_wp2
          go_ret
          refine ⟨?_, 0, rfl⟩
          have h3 : p + q ≤ a := by rw [hsum.out]; exact hca
          have e3 : ((rk N false a : Nat) : Int) = (a : Int) - ((p : Int) + (q : Int)) := by
            unfold rk
            rw [if_neg (by decide), ← hsum.out]
            omega
          rw [e3]
          first | rfl | (rw [← HP.out]; rfl)
  · 
    go_enter Try.func56, Try.ntmps56
    go_wp2_with fail
    refine (blen_any w b a hc0).mono ?_
    rintro e w' ⟨rfl, rfl⟩
    go_wp2
    clear hcc hc2
    go_loop [8, 9] (fun x i => ∃ k : Nat, (a - 1) / 64 / 8 * 8 ≤ k ∧ k ≤ (a - 1) / 64 ∧ i = .int .i64 k ∧ x = .int .i64 (cnt N (64 * k) : Nat)) (fun _ i => (a - 1) / 64 - (intOf i).toNat)
    case atStart => exact ⟨(a - 1) / 64 / 8 * 8, Nat.le_refl _, by omega, by congr 1; omega, by congr 3; omega⟩
    case round =>
      obtain ⟨k, hk0, hk, rfl, rfl⟩ := hrel
      have hcb : cnt N (64 * k) ≤ 64 * k := cnt_le _ _
      by_cases hkl : k < (a - 1) / 64
      · have hkb : decide ((k : Int) < ((a : Int) - 1) / 64) = true := by simp; omega
        have hwk := HW.out k (by omega)
        have hc64 : cnt (word N k) 64 ≤ 64 := cnt_le _ _
        have hadd : Hid (cnt N (64 * k) + cnt (word N k) 64 = cnt N (64 * (k + 1))) := Lib.hid (by rw [cnt_word N k 64 (Nat.le_refl _), Nat.mul_succ])
        go_wp2_with fail
        refine (ones_any _ _ (word_lt N k)).mono ?_
        rintro e w'' ⟨rfl, rfl⟩
        go_wp2
        go_round
        case rel => exact ⟨k + 1, by omega, by omega, by go_num, by rw [← hadd.out]; go_num⟩
        case measure => simp [intOf]; omega
      · obtain rfl : k = (a - 1) / 64 := by omega
        have hkb : decide (((((a - 1) / 64 : Nat)) : Int) < ((a : Int) - 1) / 64) = false := by simp; omega
        have hsum : Hid (cnt N (64 * ((a - 1) / 64)) + cnt (word N ((a - 1) / 64) * 2 ^ (63 - (a - 1) % 64) % 2 ^ 64) 64 = cnt N a) := Lib.hid (last_sum N a ha)
        have hca : cnt N a ≤ a := cnt_le _ _
        have hsum0 : cnt N (64 * ((a - 1) / 64)) + cnt (word N ((a - 1) / 64) * 2 ^ (63 - (a - 1) % 64) % 2 ^ 64) 64 ≤ 1048576 := by rw [hsum.out]; omega
        go_wp2_with fail
        rw [wrap_shl]
        refine (ones_any _ _ (Nat.mod_lt _ (by decide))).mono ?_
        rintro e w'' ⟨rfl, rfl⟩
        obtain ⟨p, hp⟩ : ∃ p, cnt N (64 * ((a - 1) / 64)) = p := ⟨_, rfl⟩
        obtain ⟨q, hq⟩ : ∃ q, cnt (word N ((a - 1) / 64) * 2 ^ (63 - (a - 1) % 64) % 2 ^ 64) 64 = q := ⟨_, rfl⟩
        rw [hp, hq] at hsum hsum0
        rw [hq]
        try rw [hp]
        have HP := Lib.hid hp
        have HQ := Lib.hid hq
        clear hp hq
        cases bb with
        | true =>
          go_wp2
          go_ret
          refine ⟨?_, 0, rfl⟩
          unfold rk
          rw [if_pos rfl, ← hsum.out]
          first | rfl | (rw [HP.out]; rfl) | go_num
        | false =>
          go_wp2
          go_ret
          refine ⟨?_, 0, rfl⟩
          have h3 : p + q ≤ a := by rw [hsum.out]; exact hca
          have e3 : ((rk N false a : Nat) : Int) = (a : Int) - ((p : Int) + (q : Int)) := by
            unfold rk
            rw [if_neg (by decide), ← hsum.out]
            omega
          rw [e3]
          first | rfl | (rw [← HP.out]; rfl)

/-- Rank at any place. -/
theorem brank_any (w : World) (S E b n N : Nat) (h : Bv w S E b n N) (bb : Bool) (i : Int) (hi : (Lit.int .i64 i).wf = true) :
    Calls Try.prog 56 #[.pointer (some ⟨b, 0, none⟩), .bool bb, .int .i64 i] w fun e w' => e = .returned (.int .i64 (rk N bb (clamp i n) : Nat)) ∧ ∃ k, w' = w.drewN k := by
  obtain ⟨h1, h2, h3, h4, A1, c1, A2, c2, hr, hw, hc⟩ := h
  have hr64 := rg_i64 i hi
  by_cases hz : clamp i n = 0
  · have hle : i ≤ 0 ∨ n = 0 := by unfold clamp at hz; omega
    rw [hz, show rk N bb 0 = 0 by unfold rk; cases bb <;> simp [cnt]]
    have hc0 : w.cell? ⟨b, 0, none⟩ = some (.int .i64 n) := hr.cell 0
    have hnn : 0 ≤ (n : Int) := by omega
    have hmm : max (0 : Int) (if (n : Int) < i then (n : Int) else i) = 0 := by split <;> omega
    clear hr hw hc
    go_enter Try.func56, Try.ntmps56
    go_wp2_with fail
    refine (blen_any w b n hc0).mono ?_
    rintro e w' ⟨rfl, rfl⟩
    rcases hle with hle | rfl
    · have hx : ¬ (n : Int) < i := by omega
      go_wp2
      all_goals (go_ret; exact ⟨rfl, 0, rfl⟩)
    · go_wp2
      all_goals (go_ret; exact ⟨rfl, 0, rfl⟩)
  · have hpos : 1 ≤ clamp i n := by omega
    have hle : clamp i n ≤ n := by unfold clamp; omega
    have hm : 0 < (n + 63) / 64 := by omega
    obtain ⟨g1, o1, rfl, -, -, hw1⟩ := hw.2 hm
    obtain ⟨g2, o2, rfl, -, -, hc1⟩ := hc.2 (by omega)
    refine brank_walk w b n _ N c1 c2 g1 o1 g2 o2 i (clamp i n) bb h1 rfl (hr.cell 0) (hr.cell 1) (hr.cell 2) (fun k hk => hw1 k _ (wordsL_at N _ k hk)) (fun k hk => hc1 k _ (cntsL_at N _ k hk)) hpos hle ?_
    unfold clamp at hz ⊢
    omega
end Go.Proofs.Ytpnkjfjkeoleaaa.B
