/- louds, the reference: Count, Check. -/
import Derived.Test.YtpnkjfjkeoleaaaLrStr
set_option linter.unusedVariables false
set_option maxRecDepth 100000
namespace Go.Proofs.Ytpnkjfjkeoleaaa.LD
open Go.RowKit HK
open Go.Proofs.Ytpnkjfjkeoleaaa.B (bytesOf bytesOf_len bytesOf_lt)

set_option maxHeartbeats 2000000 in
theorem rcount_any (w : World) (B : Nat) (A : Option Addr) (n c : Nat) (ss : List ByteArray) (hg : Good (ss.map bytesOf)) (hz : ∀ s ∈ ss, s.size ≤ maxLen) (hs : Sl w B A n (ss.map Value.string)) :
    Calls Try.prog 53 #[.slice A n c] w fun e w' => e = .returned (.int .i64 (wt (ss.map bytesOf) (root (ss.map bytesOf)) : Nat)) ∧ ∃ q, w' = w.drewN q := by
  have hlen : (ss.map bytesOf).length = n := by have := hs.1; simpa using this
  have HSTR : Hid (∀ k, k < n → StrAt w A (ss.map bytesOf) k) := Lib.hid (fun k hk => strs_at hz hs hk)
  clear hs hz
  obtain ⟨L, hL⟩ : ∃ L, ss.map bytesOf = L := ⟨_, rfl⟩
  rw [hL] at HSTR hlen hg ⊢
  clear hL
  have hfew := hg.few
  rw [hlen] at hfew
  have HG := Lib.hid hg
  have HLE : Hid (∀ k, k ≤ n → cntTo L k ≤ 1 + 256 * k) := Lib.hid (fun k hk => cntTo_le hg k (by omega))
  have HLEN := Lib.hid hlen
  have HW : Hid (wt L (root L) = cntTo L n) := Lib.hid (by rw [wt_cnt, hlen])
  clear hg hlen
  go_enter Try.func53, Try.ntmps53
  go_wp2
  go_loopw [3, 4] (fun u v wr => ∃ (k q m : Nat), u = .int .i64 m ∧ v = .int .i64 k ∧ k ≤ n ∧ m ≤ 1 + 256 * k ∧ Hid (m = cntTo L k) ∧ wr = w.drewN q) (fun _ v _ => n - (intOf v).toNat)
  case atStart => exact ⟨0, 0, 1, rfl, rfl, Nat.zero_le _, by omega, Lib.hid rfl, rfl⟩
  case round =>
    obtain ⟨k, q, m, rfl, rfl, hk, hm, HM, rfl⟩ := hrel
    by_cases hlt : k < n
    · have hb0 : decide ((k : Int) < (n : Int)) = true := by simp; omega
      obtain ⟨b, off, s, rfl, hc, hat, hsz⟩ := HSTR.out k hlt
      have hle := HLE.out (k + 1) (by omega)
      have hsl := bytesOf_len s
      rw [← hat] at hsl
      have h256 := (HG.out.lenAt (by rw [HLEN.out]; exact hlt)).2
      have hss : s.size ≤ 256 := by omega
      obtain ⟨z, hz⟩ : ∃ z, s.size = z := ⟨_, rfl⟩
      have hz' : ((s.size : Nat) : Int) = (z : Int) := by rw [hz]
      by_cases hk0 : k = 0
      · have HM2 : Hid (m + z = cntTo L (k + 1)) := Lib.hid (by rw [HM.out, ← hz, ← hsl]; subst hk0; simp [cntTo])
        have hle2 : m + z ≤ 1 + 256 * (k + 1) := by rw [HM2.out]; exact hle
        have hnk : ¬ 0 < k := by omega
        have hbk : decide ((0 : Int) < (k : Int)) = false := by simp; omega
        clear hsl hat hz h256 hss hle hk0
        go_wp2
        go_roundw
        case rel => exact ⟨k + 1, q, m + z, by go_num, by go_num, by omega, by omega, HM2, rfl⟩
        case measure => simp [intOf]; omega
      · have hk1 : 0 < k := by omega
        have hbk : decide ((0 : Int) < (k : Int)) = true := by simp; omega
        obtain ⟨b', off', p, hA', hcp, hap, hpz⟩ := HSTR.out (k - 1) (by omega)
        injection hA' with e0
        injection e0 with e1 e2
        subst e1 e2
        have hi1 : (0 : Int) ≤ (k : Int) - 1 := by omega
        have hi2 : (k : Int) - 1 < (n : Int) := by omega
        have hi3 : ((k : Int) - 1).toNat = k - 1 := by omega
        have hcl := com_le (bytesOf p) (bytesOf s)
        rw [bytesOf_len] at hcl
        have HCM := Lib.hid (fun W => rcommon_any W p s (by unfold maxLen; omega) (by unfold maxLen; omega))
        obtain ⟨r, hr⟩ : ∃ r, com (bytesOf p) (bytesOf s) = r := ⟨_, rfl⟩
        rw [hr] at hcl HCM
        rw [hz] at hcl
        have HM2 : Hid (m + z = cntTo L (k + 1) + r) := Lib.hid (by
          have h1 := cost_pos (L := L) k
          have h2 : cntTo L (k + 1) = cntTo L k + cost L k := by simp [cntTo, hk0]
          rw [hap, hat, hr] at h1
          rw [h2, HM.out, ← hz, ← bytesOf_len]
          omega)
        have hle2 : m + z - r ≤ 1 + 256 * (k + 1) := by have := HM2.out; omega
        have hzr : r ≤ m + z := by omega
        have hz2 : z ≤ 256 := by omega
        have hwr : IntKind.i64.wrap ((m : Int) + (z : Int) - (r : Int)) = ((m + z - r : Nat) : Int) := by
          rw [IntWalk.i64_in _ (by omega)]; omega
        have hi4 : (1 : Int) ≤ (k : Int) := by omega
        have hi5 : 1 ≤ k := by omega
        have hi6 : k ≤ n := by omega
        have hi7 : (k : Int) ≤ (n : Int) := by omega
        have hwk : IntKind.i64.wrap ((k : Int) - 1) = (k : Int) - 1 := IntWalk.i64_in _ (by omega)
        clear hsl hat hz h256 hss hle hr hap hk0
        go_wp2
        go_quiet ((go_at_call 77; exact quiet_more HCM.out))
        go_wp2
        go_roundw
        case rel => exact ⟨k + 1, q + nq, m + z - r, by first | rfl | go_num, by go_num, by omega, by omega, Lib.hid (by have := HM2.out; omega), by simp⟩
        case measure => simp [intOf]; omega
    · obtain rfl : k = n := by omega
      have hb0 : decide ((k : Int) < (k : Int)) = false := by simp
      go_wp2
      go_ret
      rw [HW.out, ← HM.out]
      exact ⟨rfl, _, rfl⟩

/-- What the reference's Check says. -/
def RChkPost (w : World) (n : Nat) (L : List Str) (e : Ending) (w' : World) : Prop :=
  (∃ q, w' = w.drewN q) ∧ ((20000 < n ∧ e = .returned (.int .i64 2)) ∨ (n ≤ 20000 ∧ Good L ∧ wt L (root L) ≤ 524287 ∧ e = .returned (.int .i64 0)) ∨ (n ≤ 20000 ∧ Good L ∧ 524287 < wt L (root L) ∧ e = .returned (.int .i64 2)) ∨ (n ≤ 20000 ∧ ¬ Good L ∧ e = .returned (.int .i64 1)))

set_option maxHeartbeats 4000000 in
theorem rcheck_any (w : World) (B : Nat) (A : Option Addr) (n c : Nat) (ss : List ByteArray) (L : List Str) (hL : ss.map bytesOf = L) (hm : n ≤ maxLen) (hz : ∀ s ∈ ss, s.size ≤ maxLen) (hs : Sl w B A n (ss.map Value.string)) :
    Calls Try.prog 27 #[.slice A n c] w (RChkPost w n L) := by
  have hlen : L.length = n := by have := hs.1; rw [← hL]; simpa using this
  by_cases hbig : 20000 < n
  · have hb1 : decide ((20000 : Int) < (n : Int)) = true := by simp; omega
    unfold maxLen at hm
    clear hs hL hlen hz
    go_enter Try.func27, Try.ntmps27
    go_wp2
    go_ret
    exact ⟨⟨0, rfl⟩, .inl ⟨hbig, rfl⟩⟩
  · have hb1 : decide ((20000 : Int) < (n : Int)) = false := by simp; omega
    have HSTR : Hid (∀ k, k < n → StrAt w A L k) := Lib.hid (fun k hk => by rw [← hL]; exact strs_at hz hs hk)
    have HB : Hid (∀ s ∈ L, ∀ v ∈ s, v < 256) := Lib.hid (by rw [← hL]; exact bytes_all ss)
    have HLEN := Lib.hid hlen
    have HCNT : Hid (Good L → ∀ q, Calls Try.prog 53 #[.slice A n c] (w.drewN q) fun e w' => e = .returned (.int .i64 (wt L (root L) : Nat)) ∧ ∃ q', w' = (w.drewN q).drewN q') := Lib.hid (fun hg q => by
      rw [← hL] at hg ⊢
      exact rcount_any (w.drewN q) B A n c ss hg hz hs)
    clear hs hL hlen hz
    unfold maxLen at hm
    go_enter Try.func27, Try.ntmps27
    go_wp2
    go_loopw [3] (fun v wr => ∃ k q : Nat, k ≤ n ∧ v = .int .i64 k ∧ Hid (∀ j, j < k → okJ L j) ∧ wr = w.drewN q) (fun v _ => n - (intOf v).toNat)
    case atStart => exact ⟨0, 0, Nat.zero_le _, rfl, Lib.hid (fun j h => by omega), rfl⟩
    case round =>
      obtain ⟨k, q, hk, rfl, HOK, rfl⟩ := hrel
      by_cases hlt : k < n
      · have hb0 : decide ((k : Int) < (n : Int)) = true := by simp; omega
        obtain ⟨b, off, s, hA, hc, hat, hsz⟩ := HSTR.out k hlt
        have hsl := bytesOf_len s
        rw [← hat] at hsl
        have i1 : (0 : Int) ≤ (k : Int) := by omega
        obtain ⟨z, hz⟩ : ∃ z, s.size = z := ⟨_, rfl⟩
        have hz' : ((s.size : Nat) : Int) = (z : Int) := by rw [hz]
        rw [hz] at hsl hsz
        have HZ := Lib.hid hz
        clear hz
        by_cases h1 : z < 1
        · have g1 : decide ((z : Int) < 1) = true := by simp; omega
          have hbad : Hid (¬ Good L) := Lib.hid (fun h => by have := (h.lenAt (by rw [HLEN.out]; exact hlt : k < L.length)).1; omega)
          subst hA
          clear hsl hat
          go_wp2
          go_quiet (fail)
          go_wp2
          go_ret
          exact ⟨⟨q + nq, by simp⟩, .inr (.inr (.inr ⟨by omega, hbad.out, rfl⟩))⟩
        have g1 : decide ((z : Int) < 1) = false := by simp; omega
        by_cases h2 : 256 < z
        · have g2 : decide ((256 : Int) < (z : Int)) = true := by simp; omega
          have hbad : Hid (¬ Good L) := Lib.hid (fun h => by have := (h.lenAt (by rw [HLEN.out]; exact hlt : k < L.length)).2; omega)
          subst hA
          clear hsl hat
          go_wp2
          go_quiet (fail)
          go_wp2
          go_ret
          exact ⟨⟨q + nq, by simp⟩, .inr (.inr (.inr ⟨by omega, hbad.out, rfl⟩))⟩
        have g2 : decide ((256 : Int) < (z : Int)) = false := by simp; omega
        by_cases hk0 : k = 0
        · have HOK1 : Hid (∀ j, j < k + 1 → okJ L j) := Lib.hid (fun j hj => by
            rw [show j = k by omega]
            exact ⟨by omega, by omega, fun h => by omega⟩)
          have hnk : ¬ 0 < k := by omega
          have g3 : decide ((0 : Int) < (k : Int)) = false := by simp; omega
          have g3' : decide (0 < k) = false := by simp; omega
          subst hA
          clear hsl hat hk0
          go_wp2
          go_quiet (fail)
          go_wp2
          go_roundw
          case rel => exact ⟨k + 1, q + nq, by omega, by go_num, HOK1, by simp⟩
          case measure => simp [intOf]; omega
        have hk1 : 0 < k := by omega
        have g3 : decide (0 < k) = true := by simp; omega
        have g3' : decide ((0 : Int) < (k : Int)) = true := by simp; omega
        obtain ⟨b', off', p, hA', hcp, hap, _⟩ := HSTR.out (k - 1) (by omega)
        rw [hA] at hA'
        injection hA' with e0
        injection e0 with e1 e2
        subst e1 e2
        have hi1 : (0 : Int) ≤ (k : Int) - 1 := by omega
        have hi2 : (k : Int) - 1 < (n : Int) := by omega
        have hi3 : ((k : Int) - 1).toNat = k - 1 := by omega
        by_cases hpl : ltS (bytesOf p) (bytesOf s) = true
        · have hl1 : Op.bytesLess s.toList p.toList = false := by
            rw [str_less]
            cases h : ltS (bytesOf s) (bytesOf p) with
            | false => rfl
            | true => have := ltS_trans hpl h; rw [ltS_irrefl] at this; cases this
          have hl2 : (s.toList == p.toList) = false := by rw [str_eq, decide_eq_false (fun e => ltS_ne hpl e.symm)]
          have HOKK : Hid (okJ L k) := Lib.hid ⟨by omega, by omega, fun h => by rw [hap, hat]; exact hpl⟩
          have HOK1 : Hid (∀ j, j < k + 1 → okJ L j) := Lib.hid (fun j hj => by
            rcases Nat.lt_or_ge j k with h | h
            · exact HOK.out j h
            · rw [show j = k by omega]; exact HOKK.out)
          subst hA
          clear hsl hat hap hpl hk0
          go_wp2
          go_quiet (fail)
          go_wp2
          go_roundw
          case rel => exact ⟨k + 1, q + nq, by omega, by go_num, HOK1, by simp⟩
          case measure => simp [intOf]; omega
        · have hbad : Hid (¬ Good L) := Lib.hid (fun h => hpl (by have h1 := (good_okJ h k (by rw [HLEN.out]; exact hlt)).2.2 hk1; rw [hat, hap] at h1; exact h1))
          have hl : (Op.bytesLess s.toList p.toList || s.toList == p.toList) = true := by
            rw [str_less, str_eq]
            by_cases e : bytesOf s = bytesOf p
            · rw [decide_eq_true e]; simp
            · rcases ltS_total e with h | h
              · rw [h]; rfl
              · exact absurd h hpl
          subst hA
          clear hsl hat hap hpl hk0
          go_wp2
          go_quiet (fail)
          go_wp2
          go_ret
          exact ⟨⟨q + nq, by simp⟩, .inr (.inr (.inr ⟨by omega, hbad.out, rfl⟩))⟩
      · obtain rfl : k = n := by omega
        have hb0 : decide ((k : Int) < (k : Int)) = false := by simp
        have HG : Hid (Good L) := Lib.hid (okJ_good (by rw [HLEN.out]; omega) HB.out (by rw [HLEN.out]; exact HOK.out))
        have HC := Lib.hid (HCNT.out HG.out q)
        have hwl : wt L (root L) ≤ 5120001 := wt_root_le HG.out
        obtain ⟨t, ht⟩ : ∃ t, wt L (root L) = t := ⟨_, rfl⟩
        rw [ht] at hwl HC
        have HT := Lib.hid ht
        clear ht
        by_cases hbw : 524287 < t
        · have g1 : decide ((524287 : Int) < (t : Int)) = true := by simp; omega
          go_wp2_with fail
          refine HC.out.mono ?_
          rintro e w' ⟨rfl, q', rfl⟩
          go_wp2
          go_ret
          exact ⟨⟨q + q', by simp⟩, .inr (.inr (.inl ⟨by omega, HG.out, by rw [HT.out]; exact hbw, rfl⟩))⟩
        · have g1 : decide ((524287 : Int) < (t : Int)) = false := by simp; omega
          go_wp2_with fail
          refine HC.out.mono ?_
          rintro e w' ⟨rfl, q', rfl⟩
          go_wp2
          go_ret
          exact ⟨⟨q + q', by simp⟩, .inr (.inl ⟨by omega, HG.out, by rw [HT.out]; omega, rfl⟩)⟩
end Go.Proofs.Ytpnkjfjkeoleaaa.LD
