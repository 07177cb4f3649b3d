/- bitvec: Select. -/
import Derived.Test.YtofeemmmdbdjdaaBvRank
set_option linter.unusedVariables false
namespace Go.Proofs.Ytofeemmmdbdjdaa.B
open Go.RowKit HK

theorem rk_zero (N : Nat) (b : Bool) : rk N b 0 = 0 := by unfold rk; cases b <;> simp [cnt]
theorem rk_step (N : Nat) (b : Bool) (a : Nat) : rk N b (a + 1) = rk N b a + (N.testBit a == b).toNat := by
  have h := cnt_le N a
  unfold rk
  simp only [cnt]
  cases b <;> cases N.testBit a <;> simp <;> omega
theorem rk_mono (N : Nat) (b : Bool) (x : Nat) : ∀ y, x ≤ y → rk N b x ≤ rk N b y := by
  intro y h
  induction h with
  | refl => exact Nat.le_refl _
  | step _ ih => rw [rk_step]; omega
theorem rk_le (N : Nat) (b : Bool) (a : Nat) : rk N b a ≤ a := by
  have h := cnt_le N a
  unfold rk
  cases b <;> simp <;> omega
theorem rk_sum (N a : Nat) : rk N true a + rk N false a = a := by
  have h := cnt_le N a
  unfold rk
  simp
  omega
/-- z is the place of the k-th bit b. -/
def SelAt (N n : Nat) (b : Bool) (k z : Int) : Prop :=
  (z = -1 ∧ (k < 0 ∨ (rk N b n : Int) ≤ k)) ∨ ∃ r : Nat, z = r ∧ r < n ∧ (rk N b r : Int) = k ∧ (rk N b (r + 1) : Int) = k + 1
theorem SelAt.same {N n : Nat} {b : Bool} {k z z' : Int} (h : SelAt N n b k z) (h' : SelAt N n b k z') : z = z' := by
  rcases h with ⟨rfl, h⟩ | ⟨r, rfl, h1, h2, h3⟩ <;> rcases h' with ⟨rfl, h'⟩ | ⟨r', rfl, h1', h2', h3'⟩
  · rfl
  · have := rk_mono N b (r' + 1) n h1'; omega
  · have := rk_mono N b (r + 1) n h1; omega
  · rcases Nat.lt_trichotomy r r' with h | h | h
    · have := rk_mono N b (r + 1) r' h; omega
    · rw [h]
    · have := rk_mono N b (r' + 1) r h; omega

set_option maxHeartbeats 1000000 in
theorem search_b (w : World) (n : Nat) (p1 p2 p3 : Value) (p : Nat → Bool) (hn : n ≤ 4611686018427387904) (hmono : ∀ i j, i ≤ j → p i = true → p j = true)
    (hf : ∀ q h, h < n → Calls Try.prog 29 #[.int .i64 (h : Nat), p1, p2, p3] (w.drewN q) fun e w' => e = .returned (.bool (p h)) ∧ ∃ k, w' = w.drewN k) :
    Calls Try.prog 28 #[.int .i64 n, .func (.func 29) #[] #[p1, p2, p3]] w fun e w' => ∃ r : Nat, e = .returned (.int .i64 r) ∧ r ≤ n ∧ (∀ x, x < r → p x = false) ∧ (∀ x, r ≤ x → x < n → p x = true) ∧ ∃ k, w' = w.drewN k := by
  have HF := Lib.hid hf; clear hf
  have HM := Lib.hid hmono; clear hmono
  go_enter Try.func28, Try.ntmps28
  go_wp2
  go_loopw [5, 6] (fun a b wr => ∃ i j : Nat, i ≤ j ∧ j ≤ n ∧ a = .int .i64 i ∧ b = .int .i64 j ∧ Hid ((∀ x, x < i → p x = false) ∧ (∀ x, j ≤ x → x < n → p x = true)) ∧ ∃ q, wr = w.drewN q) (fun a b _ => (intOf b).toNat - (intOf a).toNat)
  case atStart => exact ⟨0, n, Nat.zero_le _, Nat.le_refl _, rfl, rfl, Lib.hid ⟨fun x h => by omega, fun x h h2 => by omega⟩, 0, rfl⟩
  case round =>
    obtain ⟨i, j, hij, hjn, rfl, rfl, HI, q, rfl⟩ := hrel
    by_cases hlt : i < j
    · have hcall := HF.out q ((i + j) / 2) (by omega)
      have e1 : (((i + j) / 2 : Nat) : Int) = ((i : Int) + (j : Int)) / 2 := by omega
      rw [e1] at hcall
      have HC := Lib.hid hcall; clear hcall e1
      cases hp : p ((i + j) / 2) with
      | true =>
        have HP := Lib.hid hp; clear hp
        go_wp2_with (go_at_call 29; refine HC.out.mono ?_; rintro e w' ⟨rfl, q', hw'⟩; rw [hw', HP.out]; clear hw')
        go_roundw
        case rel => exact ⟨i, (i + j) / 2, by omega, by omega, rfl, by go_num, Lib.hid ⟨HI.out.1, fun x h1 h2 => HM.out _ x h1 HP.out⟩, _, rfl⟩
        case measure => simp [intOf]; omega
      | false =>
        have HP := Lib.hid hp; clear hp
        go_wp2_with (go_at_call 29; refine HC.out.mono ?_; rintro e w' ⟨rfl, q', hw'⟩; rw [hw', HP.out]; clear hw')
        go_roundw
        case rel =>
          refine ⟨(i + j) / 2 + 1, j, by omega, by omega, by go_num, rfl, Lib.hid ⟨fun x h1 => ?_, HI.out.2⟩, _, rfl⟩
          cases hx : p x with
          | false => rfl
          | true => have := HM.out x ((i + j) / 2) (by omega) hx; rw [HP.out] at this; cases this
        case measure => simp [intOf]; omega
    · obtain rfl : i = j := by omega
      go_wp2
      go_ret
      exact ⟨i, rfl, hjn, HI.out.1, HI.out.2, q, rfl⟩


theorem clamp_nat (a n : Nat) (h : a ≤ n) : clamp (a : Int) n = a := by unfold clamp; omega
theorem wf_i64 (n : Nat) (h : n ≤ 4611686018427387904) : (Lit.int .i64 (n : Int)).wf = true := by
  simp only [Lit.wf, Bool.and_eq_true, decide_eq_true_eq]
  constructor
  · show (-9223372036854775808 : Int) ≤ _; omega
  · show _ ≤ (9223372036854775807 : Int); omega

set_option maxHeartbeats 1000000 in
theorem sel1_any (W : World) (B1 B2 B3 S E b n N i : Nat) (bb : Bool) (k : Int) (h : Bv W S E b n N) (hi : i < n) (hc1 : W.cell? ⟨B1, 0, none⟩ = some (.pointer (some ⟨b, 0, none⟩))) (hc2 : W.cell? ⟨B2, 0, none⟩ = some (.bool bb)) (hc3 : W.cell? ⟨B3, 0, none⟩ = some (.int .i64 k)) :
    Calls Try.prog 29 #[.int .i64 i, .pointer (some ⟨B1, 0, none⟩), .pointer (some ⟨B2, 0, none⟩), .pointer (some ⟨B3, 0, none⟩)] W fun e w' => e = .returned (.bool (decide (k < (rk N bb (i + 1) : Nat)))) ∧ ∃ q, w' = W.drewN q := by
  have hn := h.1
  have hg : ∀ q, Calls Try.prog 13 #[.pointer (some ⟨b, 0, none⟩), .bool bb, .int .i64 ((i : Int) + 1)] (W.drewN q) fun e w' => e = .returned (.int .i64 ((rk N bb (i + 1) : Nat) : Int)) ∧ ∃ m, w' = (W.drewN q).drewN m := by
    intro q
    have := brank_any (W.drewN q) S E b n N (h.drewN q) bb ((i + 1 : Nat) : Int) (wf_i64 _ (by omega))
    rw [clamp_nat _ _ (by omega)] at this
    exact this
  obtain ⟨y, hy⟩ : ∃ y, rk N bb (i + 1) = y := ⟨_, rfl⟩
  rw [hy] at hg ⊢
  have HG := Lib.hid hg
  have e1 : IntKind.i64.wrap ((i : Int) + 1) = (i : Int) + 1 := IntWalk.i64_in _ (by omega)
  clear hg hy h
  go_enter Try.func29, Try.ntmps29
  go_wp2_with fail
  go_quiet ((go_at_call 13; exact Calls.quiet_of (HG.out _)))
  go_wp2
  go_ret
  exact ⟨rfl, nq, rfl⟩
end Go.Proofs.Ytofeemmmdbdjdaa.B
