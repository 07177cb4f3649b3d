/- bitvec: the reference's Same, Get; the law's bits(). -/
import Derived.Test.YtofeemmmdbdjdaaBvRef
set_option linter.unusedVariables false
namespace Go.Proofs.Ytofeemmmdbdjdaa.B
open Go.RowKit HK

theorem eq_of_alls {α : Type} (la lb : List α) (h : la.length = lb.length) (hh : ∀ j, j < la.length → la[j]? = lb[j]?) : la = lb := by
  apply List.ext_getElem?
  intro j
  by_cases hj : j < la.length
  · exact hh j hj
  · rw [List.getElem?_eq_none (by omega), List.getElem?_eq_none (by omega)]

set_option maxHeartbeats 1000000 in
theorem rsame_any (w : World) (B B' : Nat) (A A' : Option Addr) (n c n' c' : Nat) (la lb : List Bool) (hn : n ≤ 4611686018427387904) (hn' : n' ≤ 4611686018427387904) (ha : Sl w B A n (la.map Value.bool)) (hb : Sl w B' A' n' (lb.map Value.bool)) :
    Calls Try.prog 19 #[.slice A n c, .slice A' n' c'] w fun e w' => e = .returned (.bool (decide (la = lb))) ∧ ∃ q, w' = w.drewN q := by
  have hla : Hid (la.length = n) := Lib.hid (by have := ha.1; simpa using this)
  have hlb : Hid (lb.length = n') := Lib.hid (by have := hb.1; simpa using this)
  by_cases hnn : n = n'
  · subst hnn
    have HA := Lib.hid ha; clear ha
    have HB := Lib.hid hb; clear hb
    go_enter Try.func19, Try.ntmps19
    go_wp2
    go_loopw [5] (fun i wr => ∃ k : Nat, k ≤ n ∧ i = .int .i64 k ∧ Hid (∀ j, j < k → la[j]? = lb[j]?) ∧ ∃ q, wr = w.drewN q) (fun i _ => n - (intOf i).toNat)
    case atStart => exact ⟨0, Nat.zero_le _, rfl, Lib.hid (fun j h => by omega), 0, rfl⟩
    case round =>
      obtain ⟨k, hk, rfl, HT, q, rfl⟩ := hrel
      by_cases hlt : k < n
      · obtain ⟨b1, o1, u1, rfl, _, hu1, hc1⟩ := HA.out.at_ hlt
        obtain ⟨b2, o2, u2, rfl, _, hu2, hc2⟩ := HB.out.at_ hlt
        obtain ⟨v1, hv1, rfl⟩ := at_bool hu1
        obtain ⟨v2, hv2, rfl⟩ := at_bool hu2
        have hd1 : (w.drewN q).cell? ⟨b1, o1 + k, none⟩ = some (.bool v1) := hc1
        have hd2 : (w.drewN q).cell? ⟨b2, o2 + k, none⟩ = some (.bool v2) := hc2
        have HV1 := Lib.hid hv1; have HV2 := Lib.hid hv2
        clear hu1 hu2 hv1 hv2
        cases v1 with
        | false =>
          cases v2 with
          | false =>
            go_wp2
            go_quiet (fail)
            go_wp2
            go_roundw
            case rel =>
              refine ⟨k + 1, by omega, by go_num, Lib.hid (fun j hj => ?_), _, rfl⟩
              rcases Nat.lt_or_ge j k with h | h
              · exact HT.out j h
              · obtain rfl : j = k := by omega
                rw [HV1.out, HV2.out]
            case measure => simp [intOf]; omega
          | true =>
            go_wp2
            go_quiet (fail)
            go_wp2
            go_ret
            refine ⟨?_, q + nq, World.drewN_drewN _ _ _⟩
            rw [decide_eq_false (fun e => by have h1 := HV1.out; rw [e, HV2.out] at h1; injection h1 with h1; cases h1)]; rfl
        | true =>
          cases v2 with
          | false =>
            go_wp2
            go_quiet (fail)
            go_wp2
            go_ret
            refine ⟨?_, q + nq, World.drewN_drewN _ _ _⟩
            rw [decide_eq_false (fun e => by have h1 := HV1.out; rw [e, HV2.out] at h1; injection h1 with h1; cases h1)]; rfl
          | true =>
            go_wp2
            go_quiet (fail)
            go_wp2
            go_roundw
            case rel =>
              refine ⟨k + 1, by omega, by go_num, Lib.hid (fun j hj => ?_), _, rfl⟩
              rcases Nat.lt_or_ge j k with h | h
              · exact HT.out j h
              · obtain rfl : j = k := by omega
                rw [HV1.out, HV2.out]
            case measure => simp [intOf]; omega
      · obtain rfl : k = n := by omega
        go_wp2
        go_ret
        refine ⟨?_, q, rfl⟩
        rw [decide_eq_true (eq_of_alls la lb (by rw [hla.out, hlb.out]) (fun j hj => HT.out j (by rw [hla.out] at hj; exact hj)))]; rfl
  · have hne : ((n : Int) != (n' : Int)) = true := by simp; omega
    clear ha hb
    go_enter Try.func19, Try.ntmps19
    go_wp2
    go_ret
    refine ⟨?_, 0, rfl⟩
    rw [decide_eq_false (fun e => hnn (by rw [← hla.out, ← hlb.out, e]))]; rfl

set_option maxHeartbeats 1000000 in
theorem rget_any (w : World) (B : Nat) (A : Option Addr) (n c : Nat) (l : List Bool) (i : Int) (hn : n ≤ 4611686018427387904) (hi : (Lit.int .i64 i).wf = true) (hs : Sl w B A n (l.map Value.bool)) :
    Calls Try.prog 22 #[.slice A n c, .int .i64 i] w fun e w' => e = .returned (.bool (getB (bitsN l) n i)) ∧ w = w' := by
  have hr64 := rg_i64 i hi
  have HS := Lib.hid hs; clear hs
  by_cases h0 : i < 0
  · have hb0 : decide (0 ≤ i) = false := by simp; omega
    have hg : getB (bitsN l) n i = false := by unfold getB; rw [hb0]; rfl
    rw [hg]
    go_enter Try.func22, Try.ntmps22
    go_wp2
    all_goals (go_ret; exact ⟨rfl, rfl⟩)
  · by_cases h1 : (n : Int) ≤ i
    · have hb0 : decide (0 ≤ i) = true := by simp; omega
      have hb1 : decide (i < (n : Int)) = false := by simp; omega
      have hg : getB (bitsN l) n i = false := by unfold getB; rw [hb0, hb1]; rfl
      rw [hg]
      go_enter Try.func22, Try.ntmps22
      go_wp2
      all_goals (go_ret; exact ⟨rfl, rfl⟩)
    · obtain ⟨j, rfl⟩ : ∃ j : Nat, i = (j : Int) := ⟨i.toNat, by omega⟩
      have hj : j < n := by omega
      have hb0 : decide ((0 : Int) ≤ (j : Int)) = true := by simp
      have hb1 : decide ((j : Int) < (n : Int)) = true := by simp; omega
      obtain ⟨b, off, u, rfl, hb, hu, hc⟩ := HS.out.at_ hj
      obtain ⟨v, hv, rfl⟩ := at_bool hu
      have hg : getB (bitsN l) n j = v := by unfold getB; rw [hb0, hb1]; simp [bit_at l j v hv]
      rw [hg]
      clear hu hv hg
      go_enter Try.func22, Try.ntmps22
      go_wp2
      all_goals (go_ret; exact ⟨rfl, rfl⟩)

/-- The bits of N. -/
def bitsL (N n : Nat) : List Bool := (List.range n).map N.testBit
theorem bitsL_len (N n : Nat) : (bitsL N n).length = n := by simp [bitsL]
theorem bitsL_snoc (N n : Nat) : bitsL N (n + 1) = bitsL N n ++ [N.testBit n] := by simp [bitsL, List.range_succ]
theorem bitsL_bits (l : List Bool) : bitsL (bitsN l) l.length = l := by
  apply List.ext_getElem?
  intro j
  unfold bitsL
  by_cases hj : j < l.length
  · rw [List.getElem?_map, List.getElem?_range hj, List.getElem?_eq_getElem hj, Option.map_some, bit_at l j l[j] (List.getElem?_eq_getElem hj)]
  · rw [List.getElem?_eq_none (by simp; omega), List.getElem?_eq_none (by omega)]
theorem one_bool {v : Bool} : ∀ u ∈ [Value.bool v], u.oneCell' = true := by
  intro u hu
  simp at hu
  subst hu
  rfl

set_option maxHeartbeats 2000000 in
theorem bbits_any (w : World) (S E b n N : Nat) (h : Bv w S E b n N) (hE : E ≤ w.heap.size) (hn : n ≤ 8000) :
    Calls Try.prog 20 #[.pointer (some ⟨b, 0, none⟩)] w fun e w' => ∃ v, e = .returned v ∧ w'.ownsRow w.heap.size 4 1 v n ((bitsL N n).map Value.bool) ∧ Below w.heap.size w w' := by
  have H := Lib.hid h; clear h
  obtain ⟨i0, hi, hz0, hz1, hz2⟩ := info_parts infoBool
  go_enter Try.func20, Try.ntmps20
  go_wp2
  go_loopw [3, 4] (fun o i wr => ∃ k : Nat, k ≤ n ∧ i = .int .i64 k ∧ wr.ownsRow w.heap.size 4 1 o k ((bitsL N k).map Value.bool) ∧ Below w.heap.size w wr) (fun _ i _ => n - (intOf i).toNat)
  case atStart => exact ⟨0, Nat.zero_le _, rfl, ⟨rfl, .inl ⟨rfl, rfl⟩⟩, Below.refl _ _⟩
  case round =>
    obtain ⟨k, hk, rfl, hown, hB⟩ := hrel
    have HK := Lib.hid (H.out.below hB hE)
    have hc0 := HK.out.len
    have hBs := hB.size
    have HO := Lib.hid hown; clear hown
    have HBB := Lib.hid hB; clear hB
    by_cases hlt : k < n
    · have hb1 : decide ((k : Int) < (n : Int)) = true := by simp; omega
      have hb2 : decide ((k : Int) < 8000) = true := by simp; omega
      have hg := bget_any wr _ E b n N HK.out (k : Int) (wf_i64 _ (by omega))
      rw [show getB N n (k : Int) = N.testBit k by unfold getB; rw [hb1, decide_eq_true (by omega : (0 : Int) ≤ (k : Int))]; simp] at hg
      have HG := Lib.hid hg; clear hg
      go_wp2_with fail
      refine (blen_any _ _ _ hc0).mono ?_
      rintro e w' ⟨rfl, hw'⟩
      rw [hw']; clear hw'
      go_wp2_with fail
      refine HG.out.mono ?_
      rintro e w' ⟨rfl, q, hw'⟩
      rw [hw']; clear hw'
      go_wp2_with (at_builtin; refine wpList_append_own _ rfl _ _ 22 rfl w.heap.size 4 i0 (.bool false) 1 1 Try.underlying22 hi hz0 hz1 hz2 rfl (by decide) _ _ _ rfl ((own_drewN HO.out q).alloc _) ⟨wr.heap.size, 0, none⟩ 1 1 [_] rfl rfl (cell_one_new _ _ _) one_bool (by unfold maxLen; omega) (by omega) (by simp; omega) ?_; intro v' w1 hown1 hgrow1 _)
      have hB1 := bel_app (bel_drewN HBB.out q) (Nat.le_refl _) (own_drewN HO.out q) hgrow1
      have HO1 := Lib.hid hown1; clear hown1 hgrow1
      go_wp2
      go_roundw
      case rel =>
        refine ⟨k + 1, by omega, by go_num, ?_, hB1⟩
        rw [bitsL_snoc, List.map_append]
        exact HO1.out
      case measure => simp [intOf]; omega
    · obtain rfl : k = n := by omega
      go_wp2_with fail
      refine (blen_any _ _ _ hc0).mono ?_
      rintro e w' ⟨rfl, hw'⟩
      rw [hw']; clear hw'
      go_wp2
      go_ret
      exact ⟨_, rfl, HO.out, HBB.out⟩
end Go.Proofs.Ytofeemmmdbdjdaa.B
