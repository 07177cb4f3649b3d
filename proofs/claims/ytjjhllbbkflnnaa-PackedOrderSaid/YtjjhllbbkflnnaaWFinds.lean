/- The reference's Find; the walk of PackedFinds. -/
import Derived.Test.YtjjhllbbkflnnaaPkFind
set_option linter.unusedVariables false
namespace Go.Proofs.Ytjjhllbbkflnnaa
open Go.RowKit HK

theorem findIdx_at (l : List Nat) (x k v : Nat) (hv : l[k]? = some v) (h : x ≤ v) (hp : ∀ j y, j < k → l[j]? = some y → ¬ x ≤ y) : l.findIdx (fun v => decide (x ≤ v)) = k := by
  obtain ⟨hk, rfl⟩ := List.getElem?_eq_some_iff.1 hv
  rw [List.findIdx_eq hk]
  refine ⟨by simpa using h, fun j hj => ?_⟩
  have := hp j l[j] hj (List.getElem?_eq_getElem (by omega))
  simpa using this
theorem findIdx_none (l : List Nat) (x : Nat) (hp : ∀ j y, j < l.length → l[j]? = some y → ¬ x ≤ y) : l.findIdx (fun v => decide (x ≤ v)) = l.length := by
  apply List.findIdx_eq_length.2
  intro v hv
  obtain ⟨i, hi, rfl⟩ := List.mem_iff_getElem.1 hv
  have := hp i l[i] hi (List.getElem?_eq_getElem hi)
  simpa using this

set_option maxHeartbeats 1000000 in
theorem rfind_any (w : World) (A : Option Addr) (n c B x : Nat) (l : List Nat) (hn : n ≤ maxLen) (hs : Sl w B A n (l.map u64v)) :
    Calls Try.prog 21 #[.slice A n c, .int .u64 (x : Int)] w fun e w' => e = .returned (.int .i64 ((l.findIdx (fun v => decide (x ≤ v)) : Nat) : Int)) ∧ w = w' := by
  unfold maxLen at hn
  have hlen : Hid (l.length = n) := Lib.hid (by have := hs.1; simpa using this)
  have HS := Lib.hid hs; clear hs
  go_enter Try.func21, Try.ntmps21
  go_wp2
  go_loop [5] (fun i => ∃ k : Nat, k ≤ n ∧ i = .int .i64 k ∧ Hid (∀ j y, j < k → l[j]? = some y → ¬ x ≤ y)) (fun i => n - (intOf i).toNat)
  case atStart => exact ⟨0, Nat.zero_le _, rfl, Lib.hid (fun j y h => by omega)⟩
  case round =>
    obtain ⟨k, hk, rfl, HI⟩ := hrel
    by_cases hlt : k < n
    · obtain ⟨b, off, u, rfl, hb, hu, hc⟩ := HS.out.at_ hlt
      obtain ⟨v, hv, rfl⟩ := at_u64 hu
      have HU := Lib.hid hu; clear hu
      have HVV := Lib.hid hv; clear hv
      by_cases hx : x ≤ v
      · go_wp2
        go_ret
        rw [findIdx_at l x k v HVV.out hx HI.out]
        exact ⟨rfl, rfl⟩
      · have hx2 : v < x := by omega
        go_wp2
        go_round
        case rel =>
          refine ⟨k + 1, by omega, by go_num, Lib.hid (fun j y h1 h2 => ?_)⟩
          by_cases hj : j = k
          · subst hj; rw [HVV.out] at h2; injection h2 with h2; omega
          · exact HI.out j y (by omega) h2
        case measure => simp [intOf]; omega
    · obtain rfl : n = k := by omega
      go_wp2
      go_ret
      rw [findIdx_none l x (by rw [hlen.out]; exact HI.out), hlen.out]
      exact ⟨rfl, rfl⟩

theorem asc_one (l : List Nat) : Asc (l.take 1) := by
  intro i j hij hj
  simp at hj
  have : j = 0 := by omega
  subst this
  have : i = 0 := by omega
  subst this
  exact Nat.le_refl _
theorem asc_of (l : List Nat) (h : ∀ j x y, l[j]? = some x → l[j + 1]? = some y → x ≤ y) : Asc l := by
  intro i j hij hj
  induction j with
  | zero => have : i = 0 := by omega
            subst this; exact Nat.le_refl _
  | succ j ih =>
    by_cases e : i = j + 1
    · subst e; exact Nat.le_refl _
    · have h1 := ih (by omega) (by omega)
      have h2 := h j l[j] l[j + 1] (List.getElem?_eq_getElem (by omega)) (List.getElem?_eq_getElem hj)
      have e1 : l.getD j 0 = l[j] := by rw [List.getD_eq_getElem?_getD, List.getElem?_eq_getElem (by omega)]; rfl
      have e2 : l.getD (j + 1) 0 = l[j + 1] := by rw [List.getD_eq_getElem?_getD, List.getElem?_eq_getElem hj]; rfl
      omega
theorem Sl.take {w : World} {B : Nat} {A : Option Addr} {n : Nat} {l : List Nat} (h : Sl w B A n (l.map u64v)) (m : Nat) (hm : m ≤ n) : Sl w B A m ((l.take m).map u64v) := by
  have hl : l.length = n := by have := h.1; simpa using this
  refine ⟨by simp; omega, fun h0 => ?_⟩
  obtain ⟨b, off, e, hb, hc⟩ := h.2 (by omega)
  refine ⟨b, off, e, hb, fun j u hu => hc j u ?_⟩
  rw [List.getElem?_map] at hu ⊢
  obtain ⟨v, hv, rfl⟩ := Option.map_eq_some_iff.1 hu
  have hj : j < m := by
    rcases Nat.lt_or_ge j m with h1 | h1
    · exact h1
    · rw [List.getElem?_eq_none (by simp; omega)] at hv; cases hv
  rw [List.getElem?_take_of_lt hj] at hv
  rw [hv]; rfl

set_option maxHeartbeats 2000000 in
theorem finds_walk (w : World) (A : Option Addr) (n c x : Nat) (l : List Nat) (hn : n ≤ 3000) (hnc : n ≤ c) (hc63 : c ≤ 9223372036854775807) (hl : ∀ v ∈ l, v < 2 ^ 64) (hs : Sl w w.heap.size A n (l.map u64v)) :
    Calls Try.prog 6 #[.slice A n c, .int .u64 (x : Int)] w fun e w' => e = .returned (.bool true) ∧ Below w.heap.size w w' := by
  have hnb : decide ((3000 : Int) < (n : Int)) = false := by simp; omega
  have hlen : Hid (l.length = n) := Lib.hid (by have := hs.1; simpa using this)
  have HL := Lib.hid hl; clear hl
  have HS := Lib.hid hs; clear hs
  go_enter Try.func6, Try.ntmps6
  go_wp2
  go_loopw [0, 5] (fun s ix wr => ∃ i m : Nat, 1 ≤ i ∧ i ≤ 3001 ∧ m ≤ n ∧ s = .slice A m c ∧ ix = .int .i64 i ∧ Hid ((m = n ∧ ∀ j y z, j + 1 < i → l[j]? = some y → l[j + 1]? = some z → y ≤ z) ∨ m = 1) ∧ ∃ q, wr = w.drewN q) (fun _ ix _ => 3001 - (intOf ix).toNat)
  case atStart => exact ⟨1, n, Nat.le_refl _, by decide, Nat.le_refl _, rfl, rfl, Lib.hid (.inl ⟨rfl, fun j y z h => by omega⟩), 0, rfl⟩
  case round =>
    obtain ⟨i, m, hi1, hi2, hmn, rfl, rfl, HI, q, rfl⟩ := hrel
    by_cases hlt : i < m
    · have hmn2 : m = n := by
        rcases HI.out with h | h
        · exact h.1
        · omega
      obtain ⟨b, off, u, rfl, hb, hu, hc⟩ := HS.out.at_ (k := i) (by omega)
      obtain ⟨v, hv, rfl⟩ := at_u64 hu
      obtain ⟨b', off', u', he, hb', hu', hc'⟩ := HS.out.at_ (k := i - 1) (by omega)
      injection he with he
      injection he with he1 he2
      subst he1 he2
      obtain ⟨v', hv', rfl⟩ := at_u64 hu'
      have HVV := Lib.hid hv; have HVV' := Lib.hid hv'; clear hu hu' hv hv'
      have HMN := Lib.hid hmn2; clear hmn2
      have hil : (i : Int) < (m : Int) := by omega
      have hw1 : IntKind.i64.wrap ((i : Int) - 1) = (i : Int) - 1 := IntWalk.i64_in _ (by omega)
      have hw2 : (0 : Int) ≤ (i : Int) - 1 := by omega
      have hw3 : (i : Int) - 1 < (m : Int) := by omega
      have hw4 : ((i : Int) - 1).toNat = i - 1 := by omega
      by_cases hd : v < v'
      · have hdi : decide ((v : Int) < (v' : Int)) = true := by simp; omega
        go_wp2
        go_quiet (fail)
        clear hw1 hw2 hw3 hw4
        go_wp2
        go_roundw
        case rel => exact ⟨i + 1, 1, by omega, by omega, by omega, rfl, by go_num, Lib.hid (.inr rfl), _, rfl⟩
        case measure => simp [intOf]; omega
      · have hd2 : v' ≤ v := by omega
        go_wp2
        go_quiet (fail)
        clear hw1 hw2 hw3 hw4
        go_wp2
        go_roundw
        case rel =>
          refine ⟨i + 1, m, by omega, by omega, hmn, rfl, by go_num, Lib.hid (.inl ⟨HMN.out, fun j y z h1 h2 h3 => ?_⟩), _, rfl⟩
          by_cases hj : j + 1 = i
          · have hj2 : j = i - 1 := by omega
            have e2 := HVV'.out
            have e3 := HVV.out
            rw [← hj2, h2] at e2
            rw [← hj, h3] at e3
            injection e2 with e2; injection e3 with e3
            omega
          · rcases HI.out with h | h
            · exact h.2 j y z (by omega) h2 h3
            · omega
        case measure => simp [intOf]; omega
    · have ha : Asc (l.take m) := by
        rcases HI.out with ⟨h1, h2⟩ | h1
        · apply asc_of
          intro j y z hy hz
          have hjm : j + 1 < m := by
            rcases Nat.lt_or_ge (j + 1) m with h3 | h3
            · exact h3
            · rw [List.getElem?_eq_none (by simp; omega)] at hz; cases hz
          rw [List.getElem?_take_of_lt (by omega)] at hy
          rw [List.getElem?_take_of_lt hjm] at hz
          exact h2 j y z (by omega) hy hz
        · rw [h1]; exact asc_one l
      have HA := Lib.hid ha; clear ha
      have HSm := Lib.hid (HS.out.take m hmn)
      obtain ⟨lm, hlm⟩ : ∃ lm, l.take m = lm := ⟨_, rfl⟩
      rw [hlm] at HA HSm
      have HLm : Hid (∀ v ∈ lm, v < 2 ^ 64) := Lib.hid (fun v hv => HL.out v (List.mem_of_mem_take (by rw [hlm]; exact hv)))
      clear hlm
      have hlenm : Hid (lm.length = m) := Lib.hid (by have := HSm.out.1; simpa using this)
      go_wp2_with fail
      refine (new_any _ A m c lm (by omega) HLm.out (HSm.out.drewN q)).mono ?_
      rintro e w1 ⟨b, g, rfl, hp, hB1⟩
      have HP := Lib.hid hp; clear hp
      have hB1' : Below w.heap.size w w1 := (bel_drewN (Below.refl _ w) q).trans hB1
      clear hB1
      go_wp2_with fail
      refine (find_any w1 _ b g x lm (by rw [hlenm.out]; omega) HLm.out HA.out HP.out).mono ?_
      rintro e w2 ⟨rfl, hB2⟩
      have hB2' := hB1'.trans (hB2.mono hB1'.size)
      clear hB2
      go_wp2_with fail
      refine (rfind_any w2 A m c w.heap.size x lm (by unfold maxLen; omega) (HSm.out.below hB2')).mono ?_
      rintro e w' ⟨rfl, rfl⟩
      obtain ⟨r, hr⟩ : ∃ r, lm.findIdx (fun v => decide (x ≤ v)) = r := ⟨_, rfl⟩
      rw [hr]
      clear hr
      have heq : ((r : Int) == (r : Int)) = true := by simp
      go_wp2_with fail
      refine (works_true w2).mono ?_
      rintro e w6 ⟨rfl, hB6⟩
      go_wp2
      go_ret
      exact ⟨rfl, hB2'.trans (hB6.mono hB2'.size)⟩
set_option maxHeartbeats 1000000 in
theorem finds_long (w : World) (A : Option Addr) (n c : Nat) (x : Int) (hn : 3000 < n) :
    Calls Try.prog 6 #[.slice A n c, .int .u64 x] w fun e w' => e = .returned (.bool true) ∧ Below w.heap.size w w' := by
  have hnb : decide ((3000 : Int) < (n : Int)) = true := by simp; omega
  go_enter Try.func6, Try.ntmps6
  go_wp2
  go_ret
  exact ⟨rfl, Below.refl _ _⟩
theorem finds_all (a0 : Option Addr) (len0 cap0 : Nat) (z0 : List Int) (a1 : Int) (w : World) (w0 : ArgRow .u64 w a0 len0 cap0 z0) (w1 : (Lit.int .u64 a1).wf = true) :
    Calls Try.prog 6 #[.slice a0 len0 cap0, .int .u64 a1] w fun e w' => e = .returned (.bool true) ∧ Below w.heap.size w w' := by
  by_cases h : len0 ≤ 3000
  · obtain ⟨l, hl, hc, hcm, hw, hs⟩ := arg_sl w0 nn_u64
    obtain ⟨x, rfl⟩ := Int.eq_ofNat_of_zero_le (nn_u64 a1 w1)
    exact finds_walk w a0 len0 cap0 x l h hc (by unfold maxLen at hcm; omega) (fun v hv => lt_u64 v (hw v hv)) hs
  · exact finds_long w a0 len0 cap0 a1 (by omega)
end Go.Proofs.Ytjjhllbbkflnnaa
