/- louds, the reference and the laws' helpers: begins, common, Find. -/
import Derived.Test.YtpnkjfjkeoleaaaLrPlain
import Derived.Test.YtpnkjfjkeoleaaaGLdW
import Derived.BigQuiet
set_option linter.unusedVariables false
set_option maxRecDepth 100000
namespace Go.Proofs.Ytpnkjfjkeoleaaa.LD
open Go.RowKit HK
open Go.Proofs.Ytpnkjfjkeoleaaa.B (bytesOf bytesOf_len bytesOf_lt)

theorem bytesOf_ext (s : ByteArray) (k : Nat) : bytesOf (s.extract 0 k) = (bytesOf s).take k := by
  unfold bytesOf
  rw [ByteArray.data_extract, Array.toList_extract, List.extract_eq_take_drop, List.drop_zero, Nat.sub_zero, List.map_take]
theorem str_ext_eq (a b : ByteArray) (k : Nat) : ((a.extract 0 k).toList == b.toList) = decide ((bytesOf a).take k = bytesOf b) := by rw [str_eq, bytesOf_ext]

set_option maxHeartbeats 1000000 in
theorem lbegins_any (w : World) (a b : ByteArray) (ha : a.size ≤ maxLen) (hb : b.size ≤ maxLen) :
    Calls Try.prog 35 #[.string a, .string b] w fun e w' => e = .returned (.bool (pre (bytesOf b) (bytesOf a))) ∧ w = w' := by
  unfold maxLen at ha hb
  by_cases h : b.size ≤ a.size
  · have hv : pre (bytesOf b) (bytesOf a) = decide ((bytesOf a).take b.size = bytesOf b) := by
      unfold pre
      rw [bytesOf_len, bytesOf_len, decide_eq_true h, Bool.true_and]
    have he := str_ext_eq a b b.size
    rw [← hv] at he
    obtain ⟨v, hv2⟩ : ∃ v, pre (bytesOf b) (bytesOf a) = v := ⟨_, rfl⟩
    rw [hv2] at he ⊢
    have h2 : decide (b.size ≤ a.size) = true := by simpa using h
    clear hv hv2
    go_enter Try.func35, Try.ntmps35
    go_wp2
    go_ret
    exact ⟨rfl, rfl⟩
  · have hv : pre (bytesOf b) (bytesOf a) = false := by
      unfold pre
      rw [bytesOf_len, bytesOf_len, decide_eq_false h, Bool.false_and]
    rw [hv]
    have h2 : decide (b.size ≤ a.size) = false := by simpa using h
    clear hv
    go_enter Try.func35, Try.ntmps35
    go_wp2
    go_ret
    exact ⟨rfl, rfl⟩
set_option maxHeartbeats 1000000 in
theorem rbegins_any (w : World) (a b : ByteArray) (ha : a.size ≤ maxLen) (hb : b.size ≤ maxLen) :
    Calls Try.prog 55 #[.string a, .string b] w fun e w' => e = .returned (.bool (pre (bytesOf b) (bytesOf a))) ∧ w = w' := by
  unfold maxLen at ha hb
  by_cases h : b.size ≤ a.size
  · have hv : pre (bytesOf b) (bytesOf a) = decide ((bytesOf a).take b.size = bytesOf b) := by
      unfold pre
      rw [bytesOf_len, bytesOf_len, decide_eq_true h, Bool.true_and]
    have he := str_ext_eq a b b.size
    rw [← hv] at he
    obtain ⟨v, hv2⟩ : ∃ v, pre (bytesOf b) (bytesOf a) = v := ⟨_, rfl⟩
    rw [hv2] at he ⊢
    have h2 : decide (b.size ≤ a.size) = true := by simpa using h
    clear hv hv2
    go_enter Try.func55, Try.ntmps55
    go_wp2
    go_ret
    exact ⟨rfl, rfl⟩
  · have hv : pre (bytesOf b) (bytesOf a) = false := by
      unfold pre
      rw [bytesOf_len, bytesOf_len, decide_eq_false h, Bool.false_and]
    rw [hv]
    have h2 : decide (b.size ≤ a.size) = false := by simpa using h
    clear hv
    go_enter Try.func55, Try.ntmps55
    go_wp2
    go_ret
    exact ⟨rfl, rfl⟩

/-- What the reference's Find says. -/
def rfindV (L : List Str) (p : Str) : Value := match idx L p with
  | some k => .int .i64 (k : Nat)
  | none => .int .i64 (-1)
theorem idx_first {L : List Str} {p : Str} {k : Nat} (hk : k < L.length) (e : at_ L k = p) (h : ∀ j, j < k → at_ L j ≠ p) : idx L p = some k := by
  unfold idx
  rw [List.findIdx?_eq_some_iff_getElem]
  have h1 : L[k] = at_ L k := by have := at_get hk; rw [List.getElem?_eq_getElem hk] at this; injection this
  refine ⟨hk, by simp [h1, e], fun j hj => ?_⟩
  have hjl : j < L.length := by omega
  have h2 : L[j] = at_ L j := by have := at_get hjl; rw [List.getElem?_eq_getElem hjl] at this; injection this
  simp only [decide_eq_true_eq]
  rw [h2]
  exact h j hj
/-- The strings lie there. -/
def StrAt (w : World) (A : Option Addr) (L : List Str) (k : Nat) : Prop := ∃ b off s, A = some ⟨b, off, none⟩ ∧ w.cell? ⟨b, off + k, none⟩ = some (.string s) ∧ at_ L k = bytesOf s ∧ s.size ≤ 9223372036854775807
theorem strs_at {w : World} {B : Nat} {A : Option Addr} {n : Nat} {ss : List ByteArray} (hz : ∀ s ∈ ss, s.size ≤ maxLen) (hs : Sl w B A n (ss.map Value.string)) {k : Nat} (hk : k < n) : StrAt w A (ss.map bytesOf) k := by
  obtain ⟨b, off, u, hA, hb, hu, hc⟩ := hs.at_ hk
  rw [List.getElem?_map] at hu
  obtain ⟨s, hs1, rfl⟩ := Option.map_eq_some_iff.1 hu
  exact ⟨b, off, s, hA, hc, at_bytes hs1, hz s (List.mem_of_getElem? hs1)⟩

set_option maxHeartbeats 1000000 in
theorem rfind_any (w : World) (B : Nat) (A : Option Addr) (n c : Nat) (ss : List ByteArray) (s : ByteArray) (hm : n ≤ maxLen) (hz : ∀ s ∈ ss, s.size ≤ maxLen) (hs : Sl w B A n (ss.map Value.string)) :
    Calls Try.prog 29 #[.slice A n c, .string s] w fun e w' => e = .returned (rfindV (ss.map bytesOf) (bytesOf s)) ∧ w = w' := by
  unfold maxLen at hm
  have HSTR : Hid (∀ k, k < n → StrAt w A (ss.map bytesOf) k) := Lib.hid (fun k hk => strs_at hz hs hk)
  have HLEN : Hid ((ss.map bytesOf).length = n) := Lib.hid (by have := hs.1; simpa using this)
  clear hs hz
  obtain ⟨L, hL⟩ : ∃ L, ss.map bytesOf = L := ⟨_, rfl⟩
  rw [hL] at HSTR HLEN ⊢
  clear hL
  go_enter Try.func29, Try.ntmps29
  go_wp2
  go_loop [5] (fun v => ∃ k : Nat, k ≤ n ∧ v = .int .i64 k ∧ Hid (∀ j, j < k → at_ L j ≠ bytesOf s)) (fun v => n - (intOf v).toNat)
  case atStart => exact ⟨0, Nat.zero_le _, rfl, Lib.hid (fun j h => by omega)⟩
  case round =>
    obtain ⟨k, hk, rfl, HNO⟩ := hrel
    by_cases hlt : k < n
    · obtain ⟨b, off, t, rfl, hc, hat, hsz⟩ := HSTR.out k hlt
      by_cases he : bytesOf t = bytesOf s
      · have hq : (t.toList == s.toList) = true := by rw [str_eq]; simpa using he
        have hv : rfindV L (bytesOf s) = .int .i64 (k : Nat) := by
          unfold rfindV; rw [idx_first (by rw [HLEN.out]; exact hlt) (by rw [hat, he]) HNO.out]
        have HV := Lib.hid hv
        clear he hat hv
        go_wp2
        go_ret
        rw [HV.out]
        exact ⟨rfl, rfl⟩
      · have hq : (t.toList == s.toList) = false := by rw [str_eq]; simpa using he
        have HNK : Hid (at_ L k ≠ bytesOf s) := Lib.hid (by rw [hat]; exact he)
        clear he hat
        go_wp2
        go_round
        case rel => exact ⟨k + 1, by omega, by go_num, Lib.hid (fun j hj => by
          rcases Nat.lt_or_ge j k with h | h
          · exact HNO.out j h
          · rw [show j = k by omega]; exact HNK.out)⟩
        case measure => simp [intOf]; omega
    · obtain rfl : k = n := by omega
      have hv : rfindV L (bytesOf s) = .int .i64 (-1) := by
        unfold rfindV; rw [idx_none (fun j hj => HNO.out j (by have := HLEN.out; omega))]
      have HV := Lib.hid hv
      clear hv
      go_wp2
      go_ret
      rw [HV.out]
      exact ⟨rfl, rfl⟩

/-- A call that only draws, behind draws. -/
theorem quiet_more {P : Program} {f : FuncId} {args : Array Value} {w : World} {a n : Nat} {v : Value} (h : ∀ W : World, Calls P f args W fun e w' => e = .returned v ∧ ∃ m, w' = W.drewN m) :
    Calls P f args (w.drewN (a + n)) fun e w'' => e = .returned v ∧ ∃ m, w'' = w.drewN (a + m) :=
  (h _).mono fun _ _ ⟨he, m, hm⟩ => ⟨he, n + m, by rw [hm, World.drewN_drewN, Nat.add_assoc]⟩
theorem take_step {a b : Str} {k : Nat} (h : a.take k = b.take k) (ha : k < a.length) (hb : k < b.length) (e : a.getD k 0 = b.getD k 0) : a.take (k + 1) = b.take (k + 1) := by
  rw [take_snoc a k ha, take_snoc b k hb, h, e]
set_option maxHeartbeats 2000000 in
theorem rcommon_any (w : World) (a b : ByteArray) (ha : a.size ≤ maxLen) (hb : b.size ≤ maxLen) :
    Calls Try.prog 77 #[.string a, .string b] w fun e w' => e = .returned (.int .i64 (com (bytesOf a) (bytesOf b) : Nat)) ∧ ∃ q, w' = w.drewN q := by
  unfold maxLen at ha hb
  obtain ⟨na, hna⟩ : ∃ n, a.size = n := ⟨_, rfl⟩
  obtain ⟨nb, hnb⟩ : ∃ n, b.size = n := ⟨_, rfl⟩
  have HA : Hid ((bytesOf a).length = na) := Lib.hid (by rw [bytesOf_len, hna])
  have HBB : Hid ((bytesOf b).length = nb) := Lib.hid (by rw [bytesOf_len, hnb])
  have hna' : ((a.size : Nat) : Int) = (na : Int) := by rw [hna]
  have hnb' : ((b.size : Nat) : Int) = (nb : Int) := by rw [hnb]
  rw [hna] at ha
  rw [hnb] at hb
  clear hna hnb
  go_enter Try.func77, Try.ntmps77
  go_wp2
  go_loopw [5] (fun v wr => ∃ (k q : Nat), v = .int .i64 k ∧ k ≤ na ∧ k ≤ nb ∧ Hid ((bytesOf a).take k = (bytesOf b).take k) ∧ wr = w.drewN q) (fun v _ => na - (intOf v).toNat)
  case atStart => exact ⟨0, 0, rfl, Nat.zero_le _, Nat.zero_le _, Lib.hid (by simp), rfl⟩
  case round =>
    obtain ⟨k, q, rfl, hka, hkb, HT, rfl⟩ := hrel
    by_cases h1 : k < na
    · have g1 : decide ((k : Int) < (na : Int)) = true := by simp; omega
      by_cases h2 : k < nb
      · have g2 : decide ((k : Int) < (nb : Int)) = true := by simp; omega
        have hia := idx_str a k (by rw [HA.out]; exact h1)
        have hib := idx_str b k (by rw [HBB.out]; exact h2)
        have i1 : (0 : Int) ≤ (k : Int) := by omega
        by_cases he : (bytesOf a).getD k 0 = (bytesOf b).getD k 0
        · have HT2 := Lib.hid (take_step HT.out (by rw [HA.out]; exact h1) (by rw [HBB.out]; exact h2) he)
          obtain ⟨y, hy⟩ : ∃ y, (bytesOf b).getD k 0 = y := ⟨_, rfl⟩
          rw [he, hy] at hia
          rw [hy] at hib
          clear he hy
          go_wp2
          go_quiet (fail)
          go_wp2
          go_roundw
          case rel => exact ⟨k + 1, q + nq, by go_num, by omega, by omega, HT2, by simp⟩
          case measure => simp [intOf]; omega
        · have HC : Hid (com (bytesOf a) (bytesOf b) = k) := Lib.hid (com_at k _ _ HT.out (by rw [HA.out]; omega) (by rw [HBB.out]; omega) (.inr (.inr he)))
          obtain ⟨x, hx⟩ : ∃ x, (bytesOf a).getD k 0 = x := ⟨_, rfl⟩
          obtain ⟨y, hy⟩ : ∃ y, (bytesOf b).getD k 0 = y := ⟨_, rfl⟩
          rw [hx] at hia he
          rw [hy] at hib he
          have g3 : ((x : Int) == (y : Int)) = false := by rw [beq_eq_false_iff_ne]; omega
          clear he hx hy
          go_wp2
          go_quiet (fail)
          go_wp2
          go_ret
          rw [HC.out]
          exact ⟨rfl, q + nq, by simp⟩
      · have g2 : decide ((k : Int) < (nb : Int)) = false := by simp; omega
        have HC : Hid (com (bytesOf a) (bytesOf b) = k) := Lib.hid (com_at k _ _ HT.out (by rw [HA.out]; omega) (by rw [HBB.out]; omega) (.inr (.inl (by rw [HBB.out]; omega))))
        go_wp2
        go_quiet (fail)
        go_wp2
        go_ret
        rw [HC.out]
        exact ⟨rfl, q + nq, by simp⟩
    · have g1 : decide ((k : Int) < (na : Int)) = false := by simp; omega
      have HC : Hid (com (bytesOf a) (bytesOf b) = k) := Lib.hid (com_at k _ _ HT.out (by rw [HA.out]; omega) (by rw [HBB.out]; omega) (.inl (by rw [HA.out]; omega)))
      go_wp2
      go_quiet (fail)
      go_wp2
      go_ret
      rw [HC.out]
      exact ⟨rfl, q + nq, by simp⟩
end Go.Proofs.Ytpnkjfjkeoleaaa.LD
