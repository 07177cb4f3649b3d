/- GBvB: several texts in one: bitvec: Select. bitvec: Select, Get. bitvec: Get. bitvec: put. bitvec: Encode. bitvec: the law's works(). Conditions: those each theorem names. -/
import Derived.Test.YtpnkjfjkeoleaaaBvRank
import Derived.Deep.RegionHeld3
/-! bitvec: Select. -/
set_option linter.unusedVariables false
set_option maxRecDepth 100000
namespace Go.Proofs.Ytpnkjfjkeoleaaa.B
open Go.RowKit HK

theorem rk_zero (N : Nat) (b : Bool) : rk N b 0 = 0 := by unfold rk; cases b <;> simp [cnt]
theorem rk_step (N : Nat) (b : Bool) (a : Nat) : rk N b (a + 1) = rk N b a + (N.testBit a == b).toNat := by
  have h := cnt_le N a
  unfold rk
  simp only [cnt]
  cases b <;> cases N.testBit a <;> simp <;> omega
theorem rk_mono (N : Nat) (b : Bool) (x : Nat) : ∀ y, x ≤ y → rk N b x ≤ rk N b y := by
  intro y h
  induction h with
  | refl => exact Nat.le_refl _
  | step _ ih => rw [rk_step]; omega
theorem rk_le (N : Nat) (b : Bool) (a : Nat) : rk N b a ≤ a := by
  have h := cnt_le N a
  unfold rk
  cases b <;> simp <;> omega
theorem rk_sum (N a : Nat) : rk N true a + rk N false a = a := by
  have h := cnt_le N a
  unfold rk
  simp
  omega
/-- z is the place of the k-th bit b. -/
def SelAt (N n : Nat) (b : Bool) (k z : Int) : Prop :=
  (z = -1 ∧ (k < 0 ∨ (rk N b n : Int) ≤ k)) ∨ ∃ r : Nat, z = r ∧ r < n ∧ (rk N b r : Int) = k ∧ (rk N b (r + 1) : Int) = k + 1
theorem SelAt.same {N n : Nat} {b : Bool} {k z z' : Int} (h : SelAt N n b k z) (h' : SelAt N n b k z') : z = z' := by
  rcases h with ⟨rfl, h⟩ | ⟨r, rfl, h1, h2, h3⟩ <;> rcases h' with ⟨rfl, h'⟩ | ⟨r', rfl, h1', h2', h3'⟩
  · rfl
  · have := rk_mono N b (r' + 1) n h1'; omega
  · have := rk_mono N b (r + 1) n h1; omega
  · rcases Nat.lt_trichotomy r r' with h | h | h
    · have := rk_mono N b (r + 1) r' h; omega
    · rw [h]
    · have := rk_mono N b (r' + 1) r h; omega

set_option maxHeartbeats 1000000 in
theorem search_b (w : World) (n : Nat) (p1 p2 p3 : Value) (p : Nat → Bool) (hn : n ≤ 4611686018427387904) (hmono : ∀ i j, i ≤ j → p i = true → p j = true)
    (hf : ∀ q h, h < n → Calls Try.prog 80 #[.int .i64 (h : Nat), p1, p2, p3] (w.drewN q) fun e w' => e = .returned (.bool (p h)) ∧ ∃ k, w' = w.drewN k) :
    Calls Try.prog 79 #[.int .i64 n, .func (.func 80) #[] #[p1, p2, p3]] w fun e w' => ∃ r : Nat, e = .returned (.int .i64 r) ∧ r ≤ n ∧ (∀ x, x < r → p x = false) ∧ (∀ x, r ≤ x → x < n → p x = true) ∧ ∃ k, w' = w.drewN k := by
  have HF := Lib.hid hf; clear hf
  have HM := Lib.hid hmono; clear hmono
  go_enter Try.func79, Try.ntmps79
  go_wp2
  go_loopw [5, 6] (fun a b wr => ∃ i j : Nat, i ≤ j ∧ j ≤ n ∧ a = .int .i64 i ∧ b = .int .i64 j ∧ Hid ((∀ x, x < i → p x = false) ∧ (∀ x, j ≤ x → x < n → p x = true)) ∧ ∃ q, wr = w.drewN q) (fun a b _ => (intOf b).toNat - (intOf a).toNat)
  case atStart => exact ⟨0, n, Nat.zero_le _, Nat.le_refl _, rfl, rfl, Lib.hid ⟨fun x h => by omega, fun x h h2 => by omega⟩, 0, rfl⟩
  case round =>
    obtain ⟨i, j, hij, hjn, rfl, rfl, HI, q, rfl⟩ := hrel
    by_cases hlt : i < j
    · have hcall := HF.out q ((i + j) / 2) (by omega)
      have e1 : (((i + j) / 2 : Nat) : Int) = ((i : Int) + (j : Int)) / 2 := by omega
      rw [e1] at hcall
      have HC := Lib.hid hcall; clear hcall e1
      cases hp : p ((i + j) / 2) with
      | true =>
        have HP := Lib.hid hp; clear hp
        go_wp2_with (go_at_call 80; refine HC.out.mono ?_; rintro e w' ⟨rfl, q', hw'⟩; rw [hw', HP.out]; clear hw')
        go_roundw
        case rel => exact ⟨i, (i + j) / 2, by omega, by omega, rfl, by go_num, Lib.hid ⟨HI.out.1, fun x h1 h2 => HM.out _ x h1 HP.out⟩, _, rfl⟩
        case measure => simp [intOf]; omega
      | false =>
        have HP := Lib.hid hp; clear hp
        go_wp2_with (go_at_call 80; refine HC.out.mono ?_; rintro e w' ⟨rfl, q', hw'⟩; rw [hw', HP.out]; clear hw')
        go_roundw
        case rel =>
          refine ⟨(i + j) / 2 + 1, j, by omega, by omega, by go_num, rfl, Lib.hid ⟨fun x h1 => ?_, HI.out.2⟩, _, rfl⟩
          cases hx : p x with
          | false => rfl
          | true => have := HM.out x ((i + j) / 2) (by omega) hx; rw [HP.out] at this; cases this
        case measure => simp [intOf]; omega
    · obtain rfl : i = j := by omega
      go_wp2
      go_ret
      exact ⟨i, rfl, hjn, HI.out.1, HI.out.2, q, rfl⟩


theorem clamp_nat (a n : Nat) (h : a ≤ n) : clamp (a : Int) n = a := by unfold clamp; omega
theorem wf_i64 (n : Nat) (h : n ≤ 4611686018427387904) : (Lit.int .i64 (n : Int)).wf = true := by
  simp only [Lit.wf, Bool.and_eq_true, decide_eq_true_eq]
  constructor
  · show (-9223372036854775808 : Int) ≤ _; omega
  · show _ ≤ (9223372036854775807 : Int); omega

set_option maxHeartbeats 1000000 in
theorem sel1_any (W : World) (B1 B2 B3 S E b n N i : Nat) (bb : Bool) (k : Int) (h : Bv W S E b n N) (hi : i < n) (hc1 : W.cell? ⟨B1, 0, none⟩ = some (.pointer (some ⟨b, 0, none⟩))) (hc2 : W.cell? ⟨B2, 0, none⟩ = some (.bool bb)) (hc3 : W.cell? ⟨B3, 0, none⟩ = some (.int .i64 k)) :
    Calls Try.prog 80 #[.int .i64 i, .pointer (some ⟨B1, 0, none⟩), .pointer (some ⟨B2, 0, none⟩), .pointer (some ⟨B3, 0, none⟩)] W fun e w' => e = .returned (.bool (decide (k < (rk N bb (i + 1) : Nat)))) ∧ ∃ q, w' = W.drewN q := by
  have hn := h.1
  have hg : ∀ q, Calls Try.prog 56 #[.pointer (some ⟨b, 0, none⟩), .bool bb, .int .i64 ((i : Int) + 1)] (W.drewN q) fun e w' => e = .returned (.int .i64 ((rk N bb (i + 1) : Nat) : Int)) ∧ ∃ m, w' = (W.drewN q).drewN m := by
    intro q
    have := brank_any (W.drewN q) S E b n N (h.drewN q) bb ((i + 1 : Nat) : Int) (wf_i64 _ (by omega))
    rw [clamp_nat _ _ (by omega)] at this
    exact this
  obtain ⟨y, hy⟩ : ∃ y, rk N bb (i + 1) = y := ⟨_, rfl⟩
  rw [hy] at hg ⊢
  have HG := Lib.hid hg
  have e1 : IntKind.i64.wrap ((i : Int) + 1) = (i : Int) + 1 := IntWalk.i64_in _ (by omega)
  clear hg hy h
  go_enter Try.func80, Try.ntmps80
  go_wp2_with fail
  go_quiet ((go_at_call 56; exact Calls.quiet_of (HG.out _)))
  go_wp2
  go_ret
  exact ⟨rfl, nq, rfl⟩
end Go.Proofs.Ytpnkjfjkeoleaaa.B

/-! bitvec: Select, Get. -/
set_option linter.unusedVariables false
namespace Go.Proofs.Ytpnkjfjkeoleaaa.B
open Go.RowKit HK

def SelPost (w : World) (N n : Nat) (bb : Bool) (k : Int) (e : Ending) (w' : World) : Prop :=
  ∃ z, e = .returned (.int .i64 z) ∧ SelAt N n bb k z ∧ Below w.heap.size w w'
theorem Bv.alloc {w : World} {S E b n N : Nat} (h : Bv w S E b n N) (hE : E ≤ w.heap.size) (o : Obj) : Bv (w.alloc o) S E b n N :=
  h.agree (fun k _ h2 => Below.heap_alloc w o k (by omega))
theorem bel3 (w : World) (o1 o2 o3 : Obj) (q : Nat) : Below w.heap.size w ((((w.alloc o1).alloc o2).alloc o3).drewN q) :=
  bel_drewN ((((Below.refl _ _).alloc (Nat.le_refl _) _).alloc (by simp) _).alloc (by simp; omega) _) q

set_option maxHeartbeats 1000000 in
theorem bsel_any (w : World) (S E b n N : Nat) (h : Bv w S E b n N) (hE : E ≤ w.heap.size) (bb : Bool) (k : Int) (hk : (Lit.int .i64 k).wf = true) :
    Calls Try.prog 57 #[.pointer (some ⟨b, 0, none⟩), .bool bb, .int .i64 k] w (SelPost w N n bb k) := by
  have hn := h.1
  have hkr := rg_i64 k hk
  obtain ⟨W, hW⟩ : ∃ W, ((w.alloc (.cells #[.pointer (some ⟨b, 0, none⟩)] 63)).alloc (.cells #[.bool bb] 4)).alloc (.cells #[.int .i64 k] 3) = W := ⟨_, rfl⟩
  have hbv : Bv W S E b n N := by rw [← hW]; exact ((h.alloc hE _).alloc (by simp; omega) _).alloc (by simp; omega) _
  have hk1 : W.cell? ⟨w.heap.size, 0, none⟩ = some (.pointer (some ⟨b, 0, none⟩)) := by rw [← hW]; exact (((Row.new w _ _).alloc _).alloc _).cell 0
  have hk2 : W.cell? ⟨w.heap.size + 1, 0, none⟩ = some (.bool bb) := by rw [← hW]; exact ((Row.new2 w _ _ _).alloc _).cell 0
  have hk3 : W.cell? ⟨w.heap.size + 1 + 1, 0, none⟩ = some (.int .i64 k) := by rw [← hW]; exact (Row.new3 w _ _ _ _).cell 0
  have hc0 : W.cell? ⟨b, 0, none⟩ = some (.int .i64 n) := by
    obtain ⟨_, _, _, _, A1, c1, A2, c2, hr, _, _⟩ := hbv
    exact hr.cell 0
  have hrank : ∀ q, Calls Try.prog 56 #[.pointer (some ⟨b, 0, none⟩), .bool bb, .int .i64 (n : Int)] (W.drewN q) fun e w' => e = .returned (.int .i64 ((rk N bb n : Nat) : Int)) ∧ ∃ m, w' = (W.drewN q).drewN m := by
    intro q
    have := brank_any (W.drewN q) S E b n N (hbv.drewN q) bb ((n : Nat) : Int) (wf_i64 _ (by omega))
    rw [clamp_nat _ _ (Nat.le_refl _)] at this
    exact this
  have hrb := rk_le N bb n
  have hBel : ∀ q, Below w.heap.size w (W.drewN q) := by rw [← hW]; exact bel3 w _ _ _
  have hse := fun Q => search_b (W.drewN Q) n (.pointer (some ⟨w.heap.size, 0, none⟩)) (.pointer (some ⟨w.heap.size + 1, 0, none⟩)) (.pointer (some ⟨w.heap.size + 1 + 1, 0, none⟩)) (fun i => decide (k < (rk N bb (i + 1) : Nat))) (by omega)
    (fun i j hij hp => by have := rk_mono N bb (i + 1) (j + 1) (by omega); simp only [decide_eq_true_eq] at *; omega)
    (fun q i hi => (sel1_any ((W.drewN Q).drewN q) w.heap.size (w.heap.size + 1) (w.heap.size + 1 + 1) S E b n N i bb k ((hbv.drewN Q).drewN q) hi hk1 hk2 hk3).mono (by
      rintro e w' ⟨rfl, q', rfl⟩
      exact ⟨rfl, q + q', World.drewN_drewN _ _ _⟩))
  have HB := Lib.hid hBel; clear hBel
  have HR := Lib.hid hrank; clear hrank
  clear hbv
  have HSE := Lib.hid hse; clear hse
  have HWW := Lib.hid hW; clear hW
  go_enter Try.func57, Try.ntmps57
  go_wp2_with fail
  rw [HWW.out]
  refine (blen_any _ _ _ hc0).mono ?_
  rintro e w' ⟨rfl, rfl⟩
  by_cases h0 : k < 0
  · have hb0 : decide (k < 0) = true := by simpa using h0
    go_wp2
    go_quiet (fail)
    go_wp2
    go_ret
    exact ⟨-1, rfl, .inl ⟨rfl, .inl h0⟩, HB.out _⟩
  · have hb0 : decide (k < 0) = false := by simpa using h0
    by_cases h1 : (rk N bb n : Int) ≤ k
    · have hb1 : decide ((rk N bb n : Int) ≤ k) = true := by simpa using h1
      go_wp2
      go_quiet ((go_at_call 56; exact Calls.quiet_of (HR.out _)))
      go_wp2
      go_ret
      exact ⟨-1, rfl, .inl ⟨rfl, .inr h1⟩, HB.out _⟩
    · have hb1 : decide ((rk N bb n : Int) ≤ k) = false := by simpa using h1
      go_wp2
      go_quiet ((go_at_call 56; exact Calls.quiet_of (HR.out _)))
      go_wp2_with fail
      refine (HSE.out _).mono ?_
      rintro e w' ⟨r, rfl, hr, hlo, hhi, q, rfl⟩
      have hz : Hid (SelAt N n bb k (r : Int)) := Lib.hid (by
        have hrn : r < n := by
          rcases Nat.lt_or_ge r n with h | h
          · exact h
          · exfalso
            obtain rfl : r = n := by omega
            cases r with
            | zero => rw [rk_zero] at h1; omega
            | succ r => have := hlo r (by omega); simp only [decide_eq_false_iff_not] at this; omega
        refine .inr ⟨r, rfl, hrn, ?_⟩
        have h2 := hhi r (Nat.le_refl _) hrn
        simp only [decide_eq_true_eq] at h2
        have h3 := rk_step N bb r
        have h4 := Bool.toNat_le (N.testBit r == bb)
        have h5 : (rk N bb r : Int) ≤ k := by
          cases r with
          | zero => rw [rk_zero]; omega
          | succ r => have := hlo r (by omega); simp only [decide_eq_false_iff_not] at this; omega
        omega)
      clear hlo hhi
      go_wp2
      go_ret
      exact ⟨r, rfl, hz.out, HB.out _⟩
end Go.Proofs.Ytpnkjfjkeoleaaa.B

/-! bitvec: Get. -/
set_option linter.unusedVariables false
namespace Go.Proofs.Ytpnkjfjkeoleaaa.B
open Go.RowKit HK

def getB (N n : Nat) (i : Int) : Bool := decide (0 ≤ i) && decide (i < (n : Int)) && N.testBit i.toNat
theorem bit_word (N j : Nat) : (bits .and .u64 ((word N (j / 64) : Nat) / 2 ^ (j % 64) : Int) 1 == 1) = N.testBit j := by
  have h1 : word N (j / 64) / 2 ^ (j % 64) < 2 ^ 64 := Nat.lt_of_le_of_lt (Nat.div_le_self _ _) (word_lt _ _)
  rw [dvp, show (1 : Int) = ((1 : Nat) : Int) from rfl, u64_and_nat _ _ h1 (by decide), Nat.and_one_is_mod]
  have h2 := word_bit N (j / 64) (j % 64)
  rw [show 64 * (j / 64) + j % 64 = j by omega] at h2
  have h3 : decide (j % 64 < 64) = true := by simp; omega
  rw [h3, Bool.true_and] at h2
  rw [← h2, Nat.testBit_eq_decide_div_mod_eq]
  cases h4 : decide (word N (j / 64) / 2 ^ (j % 64) % 2 = 1) with
  | true => simp only [decide_eq_true_eq] at h4; rw [h4]; rfl
  | false =>
    simp only [decide_eq_false_iff_not] at h4
    have h5 : word N (j / 64) / 2 ^ (j % 64) % 2 = 0 := by omega
    rw [h5]; rfl

set_option maxHeartbeats 1000000 in
theorem bget_any (w : World) (S E b n N : Nat) (h : Bv w S E b n N) (i : Int) (hi : (Lit.int .i64 i).wf = true) :
    Calls Try.prog 46 #[.pointer (some ⟨b, 0, none⟩), .int .i64 i] w fun e w' => e = .returned (.bool (getB N n i)) ∧ ∃ k, w' = w.drewN k := by
  obtain ⟨hn, h2, h3, h4, A1, c1, A2, c2, hr, hw, hc⟩ := h
  have hr64 := rg_i64 i hi
  have hc0 : w.cell? ⟨b, 0, none⟩ = some (.int .i64 n) := hr.cell 0
  have hc1 : w.cell? ⟨b, 1, none⟩ = some (.slice A1 ((n + 63) / 64) c1) := hr.cell 1
  have HR := Lib.hid hr; clear hr hc
  have HW := Lib.hid hw; clear hw h2
  by_cases h0 : i < 0
  · have hb0 : decide (0 ≤ i) = false := by simp; omega
    have hg : getB N n i = false := by unfold getB; rw [hb0]; rfl
    rw [hg]
    go_enter Try.func46, Try.ntmps46
    go_wp2
    all_goals (go_ret; exact ⟨rfl, 0, rfl⟩)
  · by_cases h1 : (n : Int) ≤ i
    · have hb0 : decide (0 ≤ i) = true := by simp; omega
      have hb1 : decide (i < (n : Int)) = false := by simp; omega
      have hg : getB N n i = false := by unfold getB; rw [hb0, hb1]; rfl
      rw [hg]
      go_enter Try.func46, Try.ntmps46
      go_wp2_with (go_at_call 71; refine (blen_any _ _ _ hc0).mono ?_; rintro e w' ⟨rfl, rfl⟩)
      all_goals (go_ret; exact ⟨rfl, 0, rfl⟩)
    · obtain ⟨j, rfl⟩ : ∃ j : Nat, i = (j : Int) := ⟨i.toNat, by omega⟩
      have hj : j < n := by omega
      have hb0 : decide ((0 : Int) ≤ (j : Int)) = true := by simp
      have hb1 : decide ((j : Int) < (n : Int)) = true := by simp; omega
      have hg : getB N n j = N.testBit j := by unfold getB; rw [hb0, hb1]; simp
      rw [hg]
      obtain ⟨g1, o1, rfl, -, -, hw1⟩ := HW.out.2 (by omega)
      have hx : w.cell? ⟨g1, o1 + j / 64, none⟩ = some (.int .u64 (word N (j / 64))) := hw1 _ _ (wordsL_at N _ _ (by omega))
      clear hw1
      have HV := Lib.hid (bit_word N j)
      go_enter Try.func46, Try.ntmps46
      go_wp2_with (go_at_call 71; refine (blen_any _ _ _ hc0).mono ?_; rintro e w' ⟨rfl, rfl⟩)
      all_goals (go_ret; rw [← HV.out]; exact ⟨rfl, 0, rfl⟩)
end Go.Proofs.Ytpnkjfjkeoleaaa.B

/-! bitvec: put. -/
set_option linter.unusedVariables false
namespace Go.Proofs.Ytpnkjfjkeoleaaa.B
open Go.RowKit HK

def u8v (v : Nat) : Value := .int .u8 (v : Int)
def u64v (v : Nat) : Value := .int .u64 (v : Int)
/-- The bytes that put appends. -/
def putL (size : Nat) (l : List Nat) : List Nat := l.flatMap fun x => bytesN x size
theorem putL_snoc (size : Nat) (l : List Nat) (x : Nat) : putL size (l ++ [x]) = putL size l ++ bytesN x size := by simp [putL]
theorem putL_len (size : Nat) (l : List Nat) : (putL size l).length = size * l.length := by
  induction l with
  | nil => simp [putL]
  | cons x l ih =>
    have h : (bytesN x size).length = size := by simp [bytesN]
    simp only [putL, List.flatMap_cons, List.length_append, List.length_cons] at *
    rw [h, ih, Nat.mul_succ]
    omega
theorem at_u64 {l : List Nat} {k : Nat} {u : Value} (h : (l.map u64v)[k]? = some u) : ∃ v, l[k]? = some v ∧ u = .int .u64 (v : Int) := by
  rw [List.getElem?_map] at h
  obtain ⟨v, hv, rfl⟩ := Option.map_eq_some_iff.1 h
  exact ⟨v, hv, rfl⟩
theorem byte_of (x j : Nat) : (x : Int) / 2 ^ (8 * j) % 256 = ((x / 2 ^ (8 * j) % 256 : Nat) : Int) := by
  rw [dvp]; simp

def PutInv (w wr : World) (base : Nat) (o : Value) (M : Nat) (xs : List Nat) : Prop := wr.ownsRow base 5 1 o M (xs.map u8v) ∧ Below base w wr

set_option maxHeartbeats 2000000 in
theorem bput_any (w : World) (base : Nat) (o : Value) (M : Nat) (pre : List Nat) (size : Nat) (A : Option Addr) (n c : Nat) (l : List Nat) (hbase : base ≤ w.heap.size) (hsz : size ≤ 8) (hn : n ≤ 16384) (hM : M ≤ 1073741824)
    (ho : w.ownsRow base 5 1 o M (pre.map u8v)) (hs : Sl w w.heap.size A n (l.map u64v)) (hs2 : n ≤ 1 ∨ Sl w base A n (l.map u64v)) :
    Calls Try.prog 66 #[o, .int .i64 size, .slice A n c] w fun e w' => ∃ v, e = .returned v ∧ PutInv w w' base v (M + size * n) (pre ++ putL size l) := by
  have hlen : Hid (l.length = n) := Lib.hid (by have := hs.1; simpa using this)
  have HS := Lib.hid hs; clear hs
  have HS2 := Lib.hid hs2; clear hs2
  have HO := Lib.hid ho; clear ho
  obtain ⟨i0, hi, hz0, hz1, hz2⟩ := info_parts infoU8
  go_enter Try.func66, Try.ntmps66
  go_wp2
  go_loopw [0, 12] (fun o i wr => ∃ k : Nat, k ≤ n ∧ i = .int .i64 k ∧ PutInv w wr base o (M + size * k) (pre ++ putL size (l.take k)) ∧ (k = 0 → wr = w)) (fun _ i _ => n - (intOf i).toNat)
  case atStart => exact ⟨0, Nat.zero_le _, rfl, ⟨by simpa [putL] using HO.out, Below.refl _ _⟩, fun _ => rfl⟩
  case round =>
    obtain ⟨k, hk, rfl, hP, hz⟩ := hrel
    by_cases hlt : k < n
    · have hat : ∃ b off x, A = some ⟨b, off, none⟩ ∧ l[k]? = some x ∧ wr.cell? ⟨b, off + k, none⟩ = some (.int .u64 (x : Nat)) := by
        by_cases hk0 : k = 0
        · rw [hz hk0]
          obtain ⟨b, off, u, hA, hb, hu, hc⟩ := HS.out.at_ hlt
          obtain ⟨v, hv, rfl⟩ := at_u64 hu
          exact ⟨b, off, v, hA, hv, hc⟩
        · rcases HS2.out with h | h
          · omega
          · obtain ⟨b, off, u, hA, hb, hu, hc⟩ := (h.below hP.2).at_ hlt
            obtain ⟨v, hv, rfl⟩ := at_u64 hu
            exact ⟨b, off, v, hA, hv, hc⟩
      obtain ⟨b, off, x, rfl, hx, hc⟩ := hat
      have HX := Lib.hid hx; clear hx hz
      have hbd : size * k ≤ 131072 := by
        have := Nat.mul_le_mul hsz (Nat.le_of_lt hlt)
        omega
      obtain ⟨T, hT⟩ : ∃ T, M + size * k = T := ⟨_, rfl⟩
      have hTb : T ≤ 1073872896 := by omega
      rw [hT] at hP
      have HT := Lib.hid hT; clear hT hbd
      have HP := Lib.hid hP; clear hP
      obtain ⟨wo, rfl⟩ : ∃ wo : World, wo = wr := ⟨_, rfl⟩
      go_wp2
      go_loopw [0, 9] (fun o i wr => ∃ j : Nat, j ≤ size ∧ i = .int .i64 j ∧ PutInv w wr base o (T + j) (pre ++ putL size (l.take k) ++ bytesN x j)) (fun _ i _ => size - (intOf i).toNat)
      case atStart => exact ⟨0, Nat.zero_le _, rfl, by simpa [bytesN] using HP.out⟩
      case round =>
        obtain ⟨j, hj, rfl, hown, hB⟩ := hrel
        by_cases hjs : j < size
        · have hBs := hB.size
          have HVB := Lib.hid (byte_of x j)
          have HBB := Lib.hid hB; clear hB
          have HOO := Lib.hid hown; clear hown
          go_wp2_with (at_builtin; refine wpList_append_own _ rfl _ _ 26 rfl base 5 i0 (.int .u8 0) 1 1 Try.underlying26 hi hz0 hz1 hz2 rfl (by decide) _ _ _ rfl (HOO.out.alloc _) ⟨wr.heap.size, 0, none⟩ 1 1 [_] rfl rfl (cell_one_new _ _ _) one_oneCell (by unfold maxLen; omega) (by omega) (by simp; omega) ?_; intro v' w1 hown1 hgrow1 _)
          have hB1 := bel_app HBB.out hbase HOO.out hgrow1
          have HO1 := Lib.hid hown1; clear hown1 hgrow1
          go_wp2
          go_roundw
          case rel =>
            refine ⟨j + 1, by omega, by go_num, ?_, hB1⟩
            have h1 := HO1.out
            rw [HVB.out] at h1
            rw [bytesN_succ, ← List.append_assoc, List.map_append]
            exact h1
          case measure => simp [intOf]; omega
        · obtain rfl : j = size := by omega
          have HOO := Lib.hid hown; clear hown
          have HBB := Lib.hid hB; clear hB
          go_wp2
          go_roundw
          case rel =>
            refine ⟨k + 1, by omega, by go_num, ⟨?_, HBB.out⟩, fun h => by omega⟩
            rw [take_snoc_b l k x HX.out, putL_snoc, Nat.mul_succ, ← Nat.add_assoc, HT.out, ← List.append_assoc]
            exact HOO.out
          case measure => simp [intOf]; omega
    · obtain rfl : k = n := by omega
      rw [List.take_of_length_le (by rw [hlen.out]; exact Nat.le_refl _)] at hP
      have HP := Lib.hid hP; clear hP
      go_wp2
      go_ret
      exact ⟨_, rfl, HP.out⟩
end Go.Proofs.Ytpnkjfjkeoleaaa.B

/-! bitvec: Encode. -/
set_option linter.unusedVariables false
namespace Go.Proofs.Ytpnkjfjkeoleaaa.B
open Go.RowKit HK

def wordsN (N m : Nat) : List Nat := (List.range m).map fun k => word N k
def cntsN (N m : Nat) : List Nat := (List.range m).map fun k => cnt N (512 * k)
theorem wordsN_map (N m : Nat) : (wordsN N m).map u64v = wordsL N m := by simp [wordsN, wordsL, u64v]
theorem cntsN_len (N m : Nat) : (cntsN N m).length = m := by simp [cntsN]
theorem cntsN_snoc (N m : Nat) : cntsN N (m + 1) = cntsN N m ++ [cnt N (512 * m)] := by simp [cntsN, List.range_succ]
/-- The code of a vector. -/
def bhead (n N : Nat) : List Nat := putL 4 [n] ++ putL 8 (wordsN N ((n + 63) / 64))
def bcode (n N : Nat) : List Nat := bhead n N ++ putL 4 (cntsN N (((n + 63) / 64 + 7) / 8))
theorem bhead_len (n N : Nat) : (bhead n N).length = 4 + 8 * ((n + 63) / 64) := by simp [bhead, putL_len, wordsN]
theorem bcode_len (n N : Nat) : (bcode n N).length = 4 + 8 * ((n + 63) / 64) + 4 * (((n + 63) / 64 + 7) / 8) := by simp [bcode, bhead_len, putL_len, cntsN]
theorem wrap_u64_small (n : Nat) (h : n ≤ 4611686018427387904) : IntKind.u64.wrap (n : Int) = (n : Int) := by rw [IntKind.wrap_u64]; omega

theorem putL_one (size x : Nat) : putL size [x] = bytesN x size := by simp [putL]
theorem bput_one (W : World) (base g : Nat) (o : Value) (M : Nat) (pre : List Nat) (size x : Nat) (hbase : base ≤ W.heap.size) (hsz : size ≤ 8) (hM : M ≤ 1073741824) (hr : Row W g 87 #[.int .u64 (x : Int)]) (ho : W.ownsRow base 5 1 o M (pre.map u8v)) :
    Calls Try.prog 66 #[o, .int .i64 size, .slice (some ⟨g, 0, none⟩) 1 1] W fun e w' => ∃ v, e = .returned v ∧ PutInv W w' base v (M + size) (pre ++ bytesN x size) := by
  have hs : Sl W W.heap.size (some ⟨g, 0, none⟩) 1 ([x].map u64v) := Sl.of_row hr 1 (Nat.le_refl _)
  have := bput_any W base o M pre size (some ⟨g, 0, none⟩) 1 1 [x] hbase hsz (by omega) hM ho hs (.inl (Nat.le_refl _))
  rwa [Nat.mul_one, putL_one] at this
theorem bput_four (W : World) (base g : Nat) (o : Value) (M : Nat) (pre : List Nat) (x : Nat) (hbase : base ≤ W.heap.size) (hM : M ≤ 1073741824) (hr : Row W g 87 #[.int .u64 (x : Int)]) (ho : W.ownsRow base 5 1 o M (pre.map u8v)) :
    Calls Try.prog 66 #[o, .int .i64 4, .slice (some ⟨g, 0, none⟩) 1 1] W fun e w' => ∃ v, e = .returned v ∧ PutInv W w' base v (M + 4) (pre ++ bytesN x 4) := bput_one W base g o M pre 4 x hbase (by omega) hM hr ho
theorem bput_words (W : World) (base : Nat) (o : Value) (M : Nat) (pre : List Nat) (A : Option Addr) (n c : Nat) (l : List Nat) (hbase : base ≤ W.heap.size) (hn : n ≤ 16384) (hM : M ≤ 1073741824)
    (ho : W.ownsRow base 5 1 o M (pre.map u8v)) (hs2 : Sl W base A n (l.map u64v)) :
    Calls Try.prog 66 #[o, .int .i64 8, .slice A n c] W fun e w' => ∃ v, e = .returned v ∧ PutInv W w' base v (M + 8 * n) (pre ++ putL 8 l) := bput_any W base o M pre 8 A n c l hbase (by omega) hn hM ho (hs2.more hbase) (.inr hs2)
theorem own_nil (W : World) (base : Nat) : W.ownsRow base 5 1 (.slice none 0 0) 0 (([] : List Nat).map u8v) := ⟨rfl, .inl ⟨rfl, rfl⟩⟩
theorem bel_al (w : World) (o : Obj) : Below w.heap.size w (w.alloc o).drew := ((Below.refl _ _).alloc (Nat.le_refl _) _).drew
theorem Sl.toB {w : World} {S E : Nat} {A : Option Addr} {n : Nat} {xs : List Value} (h : SlR w S E A n xs) {B : Nat} (hB : E ≤ B) {w' : World} (hb : Below B w w') : Sl w' B A n xs := (h.sl.more hB).below hb

set_option maxHeartbeats 2000000 in
theorem benc_any (w : World) (S E b n N : Nat) (h : Bv w S E b n N) (hE : E ≤ w.heap.size) :
    Calls Try.prog 39 #[.pointer (some ⟨b, 0, none⟩)] w fun e w' => ∃ v, e = .returned v ∧ PutInv w w' w.heap.size v (4 + 8 * ((n + 63) / 64) + 4 * (((n + 63) / 64 + 7) / 8)) (bcode n N) := by
  obtain ⟨hn, h2, h3, h4, A1, c1, A2, c2, hr, hw, hc⟩ := h
  have hc0 : w.cell? ⟨b, 0, none⟩ = some (.int .i64 n) := hr.cell 0
  have hc1 : w.cell? ⟨b, 1, none⟩ = some (.slice A1 ((n + 63) / 64) c1) := hr.cell 1
  have hc2 : w.cell? ⟨b, 2, none⟩ = some (.slice A2 (((n + 63) / 64 + 7) / 8) c2) := hr.cell 2
  have hb : b < w.heap.size := hr.lt
  have hu : IntKind.u64.wrap (n : Int) = (n : Int) := wrap_u64_small n (by omega)
  have HW := Lib.hid hw; clear hw h2 hr
  have HC := Lib.hid hc; clear hc
  go_enter Try.func39, Try.ntmps39
  go_wp2_with fail
  go_region_held3 (fun w' => w'.cell? ⟨b, 0, none⟩ = some (.int .i64 n) ∧ w'.cell? ⟨b, 1, none⟩ = some (.slice A1 ((n + 63) / 64) c1))
    (first
      | go_keep
      | (exact ⟨(hB2.cell (p := ⟨b, 0, none⟩) hb).trans hc0, (hB2.cell (p := ⟨b, 1, none⟩) hb).trans hc1⟩)
      | (exact ⟨(hB1.cell (p := ⟨b, 0, none⟩) hb).trans hc0, (hB1.cell (p := ⟨b, 1, none⟩) hb).trans hc1⟩))
    (first
      | (go_at_call_of 66 (Value.int IntKind.i64 4); refine (bput_four _ w.heap.size w.heap.size (.slice none 0 0) 0 [] n (bel_al _ _).size (by omega) (Row.new w _ _).drew (own_nil _ _)).mono ?_; rintro e w1 ⟨v1, rfl, hP1⟩; have hB1 := (bel_al w _).trans hP1.2; have HP1 := Lib.hid hP1; clear hP1; have HB1 := Lib.hid hB1)
      | (go_at_call_of 66 (Value.int IntKind.i64 8); refine (bput_words _ w.heap.size v1 (0 + 4) ([] ++ bytesN n 4) A1 ((n + 63) / 64) c1 (wordsN N ((n + 63) / 64)) HB1.out.size (by omega) (by omega) HP1.out.1 (by rw [wordsN_map]; exact Sl.toB HW.out hE HB1.out)).mono ?_; rintro e w2 ⟨v2, rfl, hP2⟩; have hB2 := HB1.out.trans hP2.2; have HP2 := Lib.hid hP2; clear hP2; have HB2 := Lib.hid hB2))
  have hd2 : w2.cell? ⟨b, 2, none⟩ = some (.slice A2 (((n + 63) / 64 + 7) / 8) c2) := (HB2.out.cell (p := ⟨b, 2, none⟩) hb).trans hc2
  have hI : Hid (PutInv w w2 w.heap.size v2 (4 + 8 * ((n + 63) / 64)) (bhead n N)) := Lib.hid ⟨by
    have h1 := HP2.out.1
    rw [show 0 + 4 + 8 * ((n + 63) / 64) = 4 + 8 * ((n + 63) / 64) by omega, List.nil_append, ← putL_one] at h1
    exact h1, HB2.out⟩
  clear hc0 hc1 hc2 hB1 hB2
  go_wp2
  clear hd2
  go_loopw [3, 25] (fun o i wr => ∃ k : Nat, k ≤ ((n + 63) / 64 + 7) / 8 ∧ i = .int .i64 k ∧ PutInv w wr w.heap.size o (4 + 8 * ((n + 63) / 64) + 4 * k) (bhead n N ++ putL 4 (cntsN N k))) (fun _ i _ => ((n + 63) / 64 + 7) / 8 - (intOf i).toNat)
  case atStart => exact ⟨0, Nat.zero_le _, rfl, by simpa [putL, cntsN] using hI.out⟩
  case round =>
    obtain ⟨k, hk, rfl, hown, hB⟩ := hrel
    by_cases hlt : k < ((n + 63) / 64 + 7) / 8
    · obtain ⟨g, off, u, rfl, hg, hu2, hcc⟩ := (Sl.toB HC.out hE hB).at_ hlt
      rw [cntsL_at N _ k hlt] at hu2
      obtain rfl : Value.int .i64 (cnt N (512 * k)) = u := by injection hu2
      have hcb : cnt N (512 * k) ≤ 512 * k := cnt_le _ _
      have hcu : IntKind.u64.wrap ((cnt N (512 * k) : Nat) : Int) = ((cnt N (512 * k) : Nat) : Int) := wrap_u64_small _ (by omega)
      have hBs := hB.size
      have HBB := Lib.hid hB; clear hB
      have HOO := Lib.hid hown; clear hown
      go_wp2_with fail
      refine (bput_four _ w.heap.size wr.heap.size _ (4 + 8 * ((n + 63) / 64) + 4 * k) (bhead n N ++ putL 4 (cntsN N k)) (cnt N (512 * k)) (by simp; omega) (by omega) (Row.new wr _ _) (HOO.out.alloc _)).mono ?_
      rintro e w3 ⟨v3, rfl, hP3⟩
      have HP3 := Lib.hid hP3; clear hP3
      go_wp2
      go_roundw
      case rel =>
        refine ⟨k + 1, by omega, by go_num, ?_, ?_⟩
        · rw [cntsN_snoc, putL_snoc, ← List.append_assoc]
          exact HP3.out.1
        · exact (HBB.out.alloc hBs _).trans HP3.out.2
      case measure => simp [intOf]; omega
    · obtain rfl : k = ((n + 63) / 64 + 7) / 8 := by omega
      go_wp2
      go_ret
      exact ⟨_, rfl, hown, hB⟩
end Go.Proofs.Ytpnkjfjkeoleaaa.B

/-! bitvec: the law's works(). -/
set_option linter.unusedVariables false
namespace Go.Proofs.Ytpnkjfjkeoleaaa.B
open Go.RowKit HK

theorem Bv.below {w w' : World} {S E b n N B : Nat} (h : Bv w S E b n N) (hb : Below B w w') (hE : E ≤ B) : Bv w' S E b n N := h.agree (Agree.of_below hb hE)
theorem Bv.quiet {w w' : World} {S E b n N : Nat} (h : Bv w S E b n N) (hq : ∃ k, w' = w.drewN k) : Bv w' S E b n N := by
  obtain ⟨k, rfl⟩ := hq
  exact h
theorem Bv.len {w : World} {S E b n N : Nat} (h : Bv w S E b n N) : w.cell? ⟨b, 0, none⟩ = some (.int .i64 n) := by
  obtain ⟨_, _, _, _, A1, c1, A2, c2, hr, _, _⟩ := h
  exact hr.cell 0
theorem conv_put {w' : World} {base : Nat} {A : Option Addr} {n c M : Nat} {xs : List Nat} (h : w'.ownsRow base 5 1 (.slice A n c) M (xs.map u8v)) : (convert 26 9 (.slice A n c)).run Try.prog w' = .ok (.string (bs xs)) w' := by
  obtain ⟨A', c', e, -, -⟩ := own_shape h
  injection e with e1 e2 e3
  subst e1 e2 e3
  exact conv_sl (P := Try.prog) 26 5 9 Try.underlying26 Try.underlying5 Try.underlying9 (Sl.of_own h) _

end Go.Proofs.Ytpnkjfjkeoleaaa.B
