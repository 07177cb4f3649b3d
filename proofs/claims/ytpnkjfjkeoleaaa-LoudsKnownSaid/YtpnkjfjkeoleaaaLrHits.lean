/- louds, the reference: Prefixes, Under; the laws' sameInts. -/
import Derived.Test.YtpnkjfjkeoleaaaLrStr
import Derived.Test.YtpnkjfjkeoleaaaGLdW
import Derived.Test.YtpnkjfjkeoleaaaLdUnder
set_option linter.unusedVariables false
set_option maxRecDepth 100000
namespace Go.Proofs.Ytpnkjfjkeoleaaa.LD
open Go.RowKit HK
open Go.Proofs.Ytpnkjfjkeoleaaa.B (bytesOf bytesOf_len bytesOf_lt)

theorem infoRHit : (Try.prog.info? 49).map (fun i => (i.zero, i.size, i.bytes)) = some (some (.agg #[.int .i64 0, .int .i64 0]), 2, 16) := by kernel_rfl
theorem rfindV_some {L : List Str} {p : Str} {k : Nat} (h : idx L p = some k) : rfindV L p = .int .i64 (k : Nat) := by unfold rfindV; rw [h]
theorem rfindV_none {L : List Str} {p : Str} (h : idx L p = none) : rfindV L p = .int .i64 (-1) := by unfold rfindV; rw [h]
set_option maxHeartbeats 4000000 in
theorem rpref_any (w : World) (A : Option Addr) (n c : Nat) (ss : List ByteArray) (s : ByteArray) (hm : n ≤ maxLen) (hz : ∀ s ∈ ss, s.size ≤ maxLen) (hsz : s.size ≤ maxLen) (hs : Sl w w.heap.size A n (ss.map Value.string)) :
    Calls Try.prog 31 #[.slice A n c, .string s] w (PrefPost w 49 (hitsTo (ss.map bytesOf) (bytesOf s) (min s.size 256))) := by
  have HF : Hid (∀ W k, Below w.heap.size w W → Calls Try.prog 29 #[.slice A n c, .string (s.extract 0 k)] W fun e w' => e = .returned (rfindV (ss.map bytesOf) ((bytesOf s).take k)) ∧ W = w') := Lib.hid (fun W k hW => by
    rw [← bytesOf_ext]
    exact rfind_any W w.heap.size A n c ss (s.extract 0 k) hm hz (hs.below hW))
  obtain ⟨i0, hi, hz0, hz1, hz2⟩ := info_parts infoRHit
  unfold maxLen at hm hsz
  clear hs hz
  obtain ⟨L, hL⟩ : ∃ L, ss.map bytesOf = L := ⟨_, rfl⟩
  obtain ⟨p, hp⟩ : ∃ p, bytesOf s = p := ⟨_, rfl⟩
  rw [hL, hp] at HF ⊢
  clear hL hp
  obtain ⟨m, hm2⟩ : ∃ m, s.size = m := ⟨_, rfl⟩
  have hm2' : ((s.size : Nat) : Int) = (m : Int) := by rw [hm2]
  rw [hm2] at hsz ⊢
  have HM2 := Lib.hid hm2
  clear hm2
  go_enter Try.func31, Try.ntmps31
  go_wp2
  go_loopw [5, 6] (fun o v wr => ∃ (j : Nat), v = .int .i64 ((j : Int) + 1) ∧ j ≤ m ∧ j ≤ 256 ∧ Hid (wr.ownsRow w.heap.size 49 2 o (hitsTo L p j).length (hitsC (hitsTo L p j))) ∧ Hid (Below w.heap.size w wr)) (fun _ v _ => m + 1 - (intOf v).toNat)
  case atStart => exact ⟨0, rfl, Nat.zero_le _, Nat.zero_le _, Lib.hid ⟨rfl, .inl ⟨rfl, rfl⟩⟩, Lib.hid (Below.refl _ _)⟩
  case round =>
    obtain ⟨j, rfl, hj, hj2, HO, HB⟩ := hrel
    by_cases hlt : j < m
    · have hb0 : decide ((j : Int) + 1 ≤ (m : Int)) = true := by simp; omega
      by_cases h256 : j < 256
      · have hb1 : decide ((j : Int) + 1 ≤ 256) = true := by simp; omega
        have hls : j + 1 ≤ s.size := by rw [HM2.out]; omega
        have hlen2 := hitsTo_len L p j
        have j1 : (0 : Int) ≤ (j : Int) + 1 := by omega
        have j2 : ((j : Int) + 1).toNat = j + 1 := by omega
        have HCF := Lib.hid (HF.out wr (j + 1) HB.out)
        cases hix : idx L (p.take (j + 1)) with
        | none =>
          rw [rfindV_none hix] at HCF
          have HH := Lib.hid (hitsTo_none hix)
          clear hix
          go_wp2_with fail
          refine HCF.out.mono ?_
          rintro e w2 ⟨rfl, rfl⟩
          go_wp2
          go_roundw
          case rel =>
            refine ⟨j + 1, by go_num, by omega, by omega, Lib.hid ?_, HB⟩
            rw [HH.out]; exact HO.out
          case measure => simp [intOf]; omega
        | some y =>
          rw [rfindV_some hix] at HCF
          have HH := Lib.hid (hitsTo_some hix)
          have hb2 : decide ((0 : Int) ≤ (y : Int)) = true := by simp
          clear hix
          obtain ⟨M, hM⟩ : ∃ M, (hitsTo L p j).length = M := ⟨_, rfl⟩
          rw [hM] at hlen2 HO
          have HM := Lib.hid hM; clear hM
          have hs3 := HB.out.size
          go_wp2_with fail
          refine HCF.out.mono ?_
          rintro e w2 ⟨rfl, rfl⟩
          go_wp2_with (at_builtin; refine wpList_append_own _ rfl _ _ 45 rfl w.heap.size 49 i0 _ 2 16 Try.underlying45 hi hz0 hz1 hz2 rfl (by decide) _ _ _ rfl (HO.out.alloc _) ⟨wr.heap.size, 0, none⟩ 1 1 (hitC (y, j + 1)) rfl rfl (hit_new _ _ _) (hit_one _) (by unfold maxLen; omega) (by omega) (by simp; omega) ?_; intro v' w4 hown4 hgrow4 _)
          have HB4 := Lib.hid (bel_app2 HB.out (Nat.le_refl _) HO.out hgrow4)
          have HO4 := Lib.hid hown4; clear hown4 hgrow4
          go_wp2
          go_roundw
          case rel =>
            refine ⟨j + 1, by go_num, by omega, by omega, Lib.hid ?_, HB4⟩
            rw [HH.out, List.length_append, HM.out, hitsC_snoc]
            exact HO4.out
          case measure => simp [intOf]; omega
      · have hb1 : decide ((j : Int) + 1 ≤ 256) = false := by simp; omega
        have HE : Hid (min m 256 = j) := Lib.hid (by omega)
        go_wp2
        go_ret
        rw [HE.out]
        exact ⟨_, rfl, HO.out, HB.out⟩
    · have hb0 : decide ((j : Int) + 1 ≤ (m : Int)) = false := by simp; omega
      have HE : Hid (min m 256 = j) := Lib.hid (by omega)
      go_wp2
      go_ret
      rw [HE.out]
      exact ⟨_, rfl, HO.out, HB.out⟩

/-- Which of the first k strings begin with p. -/
def underTo (L : List Str) (p : Str) (k : Nat) : List Nat := (List.range k).filter fun i => pre p (at_ L i)
theorem under_all (L : List Str) (p : Str) : under L p = underTo L p L.length := rfl
theorem underTo_succ (L : List Str) (p : Str) (k : Nat) : underTo L p (k + 1) = underTo L p k ++ if pre p (at_ L k) then [k] else [] := by
  unfold underTo
  rw [List.range_succ, List.filter_append]
  cases h : pre p (at_ L k) <;> simp [h]
theorem underTo_len (L : List Str) (p : Str) (k : Nat) : (underTo L p k).length ≤ k := by
  unfold underTo
  exact Nat.le_trans (List.length_filter_le _ _) (by simp)
theorem take_stop {α : Type} {a b : List α} {m : Nat} (h : m ≤ a.length) : (a ++ b).take m = a.take m := List.take_append_of_le_length h
section
variable {L : List Str} {p : Str} {k M : Nat} {most : Int} {l : List Nat}
theorem und_yes (h1 : l = (underTo L p k).take most.toNat) (h2 : l.length = M) (hlt : (M : Int) < most) (hp : pre p (at_ L k) = true) : l ++ [k] = (underTo L p (k + 1)).take most.toNat := by
  have h3 : (underTo L p k).length = M := by
    have := congrArg List.length h1
    rw [h2, List.length_take] at this
    omega
  rw [List.take_of_length_le (by omega)] at h1
  rw [underTo_succ, hp, if_pos rfl, ← h1, List.take_of_length_le (by rw [List.length_append, h2]; simp; omega)]
theorem und_no (h1 : l = (underTo L p k).take most.toNat) (hp : pre p (at_ L k) = false) : l = (underTo L p (k + 1)).take most.toNat := by
  rw [underTo_succ, hp]
  simpa using h1
theorem und_full (h1 : l = (underTo L p k).take most.toNat) (h2 : l.length = M) (hge : ¬ (M : Int) < most) : l = (underTo L p (k + 1)).take most.toNat := by
  have h3 : most.toNat ≤ (underTo L p k).length := by
    have := congrArg List.length h1
    rw [h2, List.length_take] at this
    omega
  rw [underTo_succ, take_stop h3]
  exact h1
end
set_option maxHeartbeats 4000000 in
theorem runder_any (w : World) (A : Option Addr) (n c : Nat) (ss : List ByteArray) (s : ByteArray) (most : Int) (hmo : (Lit.int .i64 most).wf = true) (hm : n ≤ 20000) (hz : ∀ s ∈ ss, s.size ≤ maxLen) (hsz : s.size ≤ maxLen) (hs : Sl w w.heap.size A n (ss.map Value.string)) :
    Calls Try.prog 33 #[.slice A n c, .string s, .int .i64 most] w (UnderPost w ((under (ss.map bytesOf) (bytesOf s)).take most.toNat)) := by
  have HSTR : Hid (∀ W k, Below w.heap.size w W → k < n → StrAt W A (ss.map bytesOf) k) := Lib.hid (fun W k hW hk => strs_at hz (hs.below hW) hk)
  have HLEN : Hid ((ss.map bytesOf).length = n) := Lib.hid (by have := hs.1; simpa using this)
  obtain ⟨i0, hi, hz0, hz1, hz2⟩ := info_parts B.infoInt
  have hmr := rg_i64 _ hmo
  have hsz0 := hsz
  have HSZ := Lib.hid hsz
  unfold maxLen at hsz
  clear hs hz hsz0
  obtain ⟨L, hL⟩ : ∃ L, ss.map bytesOf = L := ⟨_, rfl⟩
  rw [hL] at HSTR HLEN ⊢
  clear hL
  go_enter Try.func33, Try.ntmps33
  go_wp2
  go_loopw [7, 8] (fun o v wr => ∃ (k M : Nat) (l : List Nat), v = .int .i64 k ∧ k ≤ n ∧ M ≤ k ∧ Hid (l = (underTo L (bytesOf s) k).take most.toNat ∧ l.length = M ∧ (M : Int) ≤ max most 0) ∧ Hid (wr.ownsRow w.heap.size 3 1 o M (l.map intV)) ∧ Hid (Below w.heap.size w wr)) (fun _ v _ => n - (intOf v).toNat)
  case atStart => exact ⟨0, 0, [], rfl, Nat.zero_le _, Nat.le_refl _, Lib.hid ⟨by simp [underTo], rfl, by omega⟩, Lib.hid ⟨rfl, .inl ⟨rfl, rfl⟩⟩, Lib.hid (Below.refl _ _)⟩
  case round =>
    obtain ⟨k, M, l, rfl, hk, hMk, HU, HO, HB⟩ := hrel
    obtain ⟨Ao, co, rfl, _, _⟩ := own_shape HO.out
    have hsr := HB.out.size
    by_cases hlt : k < n
    · have hb0 : decide ((k : Int) < (n : Int)) = true := by simp; omega
      by_cases hmo2 : (M : Int) < most
      · have hb1 : decide ((M : Int) < most) = true := by simpa using hmo2
        obtain ⟨b, off, t, rfl, hc, hat, htz⟩ := HSTR.out wr k HB.out hlt
        have hcb := rbegins_any wr t s (by unfold maxLen; omega) HSZ.out
        rw [← hat] at hcb
        clear hat
        cases hp : pre (bytesOf s) (at_ L k) with
        | true =>
          rw [hp] at hcb
          have HC := Lib.hid hcb
          have HU2 := Lib.hid (und_yes HU.out.1 HU.out.2.1 hmo2 hp)
          clear hcb hp
          go_wp2_with fail
          refine HC.out.mono ?_
          rintro e w2 ⟨rfl, rfl⟩
          go_wp2_with (at_builtin; refine wpList_append_own _ rfl _ _ 31 rfl w.heap.size 3 i0 _ 1 8 Try.underlying31 hi hz0 hz1 hz2 rfl (by decide) _ _ _ rfl (HO.out.alloc _) ⟨wr.heap.size, 0, none⟩ 1 1 [_] rfl rfl (cell_one_new _ _ _) one_oneCell (by unfold maxLen; omega) (by omega) (by simp; omega) ?_; intro v' w6 hown6 hgrow6 _)
          have HB6 := Lib.hid (bel_app HB.out (Nat.le_refl _) HO.out hgrow6)
          have HO6 := Lib.hid hown6; clear hown6 hgrow6
          go_wp2
          go_roundw
          case rel =>
            refine ⟨k + 1, M + 1, l ++ [k], by go_num, by omega, by omega, Lib.hid ⟨HU2.out, by rw [List.length_append, HU.out.2.1]; rfl, by omega⟩, Lib.hid ?_, HB6⟩
            rw [List.map_append]
            exact HO6.out
          case measure => simp [intOf]; omega
        | false =>
          rw [hp] at hcb
          have HC := Lib.hid hcb
          have HU2 := Lib.hid (und_no HU.out.1 hp)
          clear hcb hp
          go_wp2_with fail
          refine HC.out.mono ?_
          rintro e w2 ⟨rfl, rfl⟩
          go_wp2
          go_roundw
          case rel => exact ⟨k + 1, M, l, by go_num, by omega, by omega, Lib.hid ⟨HU2.out, HU.out.2.1, HU.out.2.2⟩, HO, HB⟩
          case measure => simp [intOf]; omega
      · have hb1 : decide ((M : Int) < most) = false := by simpa using hmo2
        have HU2 := Lib.hid (und_full HU.out.1 HU.out.2.1 hmo2)
        go_wp2
        go_roundw
        case rel => exact ⟨k + 1, M, l, by go_num, by omega, by omega, Lib.hid ⟨HU2.out, HU.out.2.1, HU.out.2.2⟩, HO, HB⟩
        case measure => simp [intOf]; omega
    · obtain rfl : k = n := by omega
      have hb0 : decide ((k : Int) < (k : Int)) = false := by simp
      have HE : Hid ((under L (bytesOf s)).take most.toNat = l) := Lib.hid (by rw [under_all, HLEN.out]; exact HU.out.1.symm)
      go_wp2
      go_ret
      rw [HE.out]
      refine ⟨_, rfl, ?_, HB.out⟩
      rw [HU.out.2.1]
      exact HO.out

set_option maxHeartbeats 2000000 in
theorem sameInts_any (w : World) (B B' : Nat) (A A' : Option Addr) (n c n' c' : Nat) (la lb : List Nat) (hn : n ≤ maxLen) (hn' : n' ≤ maxLen) (hla : ∀ v ∈ la, v < 2 ^ 62) (hlb : ∀ v ∈ lb, v < 2 ^ 62) (ha : Sl w B A n (la.map intV)) (hb : Sl w B' A' n' (lb.map intV)) :
    Calls Try.prog 32 #[.slice A n c, .slice A' n' c'] w fun e w' => e = .returned (.bool (decide (la = lb))) ∧ ∃ q, w' = w.drewN q := by
  unfold maxLen at hn hn'
  have hl1 : la.length = n := by have := ha.1; simpa using this
  have hl2 : lb.length = n' := by have := hb.1; simpa using this
  by_cases hnn : n = n'
  · subst hnn
    have hb0 : ((n : Int) == (n : Int)) = true := by simp
    have HA : Hid (∀ k, k < n → ∃ b off, A = some ⟨b, off, none⟩ ∧ w.cell? ⟨b, off + k, none⟩ = some (.int .i64 (la.getD k 0 : Nat)) ∧ la.getD k 0 < 2 ^ 62) := Lib.hid (fun k hk => by
      obtain ⟨b, off, u, hA, _, hu, hc⟩ := ha.at_ hk
      rw [List.getElem?_map] at hu
      obtain ⟨s, hs1, rfl⟩ := Option.map_eq_some_iff.1 hu
      rw [List.getD_eq_getElem?_getD, hs1]
      exact ⟨b, off, hA, hc, hla _ (List.mem_of_getElem? hs1)⟩)
    have HBB : Hid (∀ k, k < n → ∃ b off, A' = some ⟨b, off, none⟩ ∧ w.cell? ⟨b, off + k, none⟩ = some (.int .i64 (lb.getD k 0 : Nat)) ∧ lb.getD k 0 < 2 ^ 62) := Lib.hid (fun k hk => by
      obtain ⟨b, off, u, hA, _, hu, hc⟩ := hb.at_ hk
      rw [List.getElem?_map] at hu
      obtain ⟨s, hs1, rfl⟩ := Option.map_eq_some_iff.1 hu
      rw [List.getD_eq_getElem?_getD, hs1]
      exact ⟨b, off, hA, hc, hlb _ (List.mem_of_getElem? hs1)⟩)
    have H1 := Lib.hid hl1; have H2 := Lib.hid hl2
    clear ha hb hl1 hl2 hla hlb
    go_enter Try.func32, Try.ntmps32
    go_wp2
    go_loopw [13] (fun v wr => ∃ k q : Nat, k ≤ n ∧ v = .int .i64 k ∧ Hid (la.take k = lb.take k) ∧ wr = w.drewN q) (fun v _ => n - (intOf v).toNat)
    case atStart => exact ⟨0, 0, Nat.zero_le _, rfl, Lib.hid (by simp), rfl⟩
    case round =>
      obtain ⟨k, q, hk, rfl, HT, rfl⟩ := hrel
      by_cases hlt : k < n
      · have hb1 : decide ((k : Int) < (n : Int)) = true := by simp; omega
        obtain ⟨b1, o1, rfl, hc1, hx1⟩ := HA.out k hlt
        obtain ⟨b2, o2, rfl, hc2, hx2⟩ := HBB.out k hlt
        have i1 : (0 : Int) ≤ (k : Int) := by omega
        by_cases he : la.getD k 0 = lb.getD k 0
        · have HT2 := Lib.hid (take_step HT.out (by rw [H1.out]; exact hlt) (by rw [H2.out]; exact hlt) he)
          obtain ⟨y, hy⟩ : ∃ y, lb.getD k 0 = y := ⟨_, rfl⟩
          rw [he, hy] at hc1
          rw [hy] at hc2
          have g1 : ((y : Int) == (y : Int)) = true := by simp
          clear he hy hx1 hx2
          go_wp2
          go_quiet (fail)
          go_wp2
          go_roundw
          case rel => exact ⟨k + 1, q + nq, by omega, by go_num, HT2, by simp⟩
          case measure => simp [intOf]; omega
        · have HE : Hid (decide (la = lb) = false) := Lib.hid (decide_eq_false (fun e => he (by rw [e])))
          obtain ⟨x, hx⟩ : ∃ x, la.getD k 0 = x := ⟨_, rfl⟩
          obtain ⟨y, hy⟩ : ∃ y, lb.getD k 0 = y := ⟨_, rfl⟩
          rw [hx] at hc1 he
          rw [hy] at hc2 he
          have g1 : ((x : Int) == (y : Int)) = false := by rw [beq_eq_false_iff_ne]; omega
          clear he hx hy hx1 hx2
          go_wp2
          go_quiet (fail)
          go_wp2
          go_ret
          rw [HE.out]
          exact ⟨rfl, q + nq, by simp⟩
      · obtain rfl : k = n := by omega
        have hb1 : decide ((k : Int) < (k : Int)) = false := by simp
        have HE : Hid (decide (la = lb) = true) := Lib.hid (decide_eq_true (by
          have h := HT.out
          rw [List.take_of_length_le (by rw [H1.out]; exact Nat.le_refl _), List.take_of_length_le (by rw [H2.out]; exact Nat.le_refl _)] at h
          exact h))
        go_wp2
        go_ret
        rw [HE.out]
        exact ⟨rfl, _, rfl⟩
  · have hb0 : ((n : Int) == (n' : Int)) = false := by rw [beq_eq_false_iff_ne]; omega
    have hv : decide (la = lb) = false := decide_eq_false (fun e => hnn (by rw [← hl1, ← hl2, e]))
    rw [hv]
    clear ha hb hl1 hl2 hla hlb hv
    go_enter Try.func32, Try.ntmps32
    go_wp2
    go_ret
    exact ⟨rfl, 0, rfl⟩
end Go.Proofs.Ytpnkjfjkeoleaaa.LD
