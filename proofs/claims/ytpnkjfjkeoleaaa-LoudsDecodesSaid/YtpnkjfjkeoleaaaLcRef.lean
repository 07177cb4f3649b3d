/- louds, the reference: the levels and the nodes. -/
import Derived.Test.YtpnkjfjkeoleaaaLcPlain
import Derived.Test.YtpnkjfjkeoleaaaLrStr
import Derived.Test.YtpnkjfjkeoleaaaLwSet
set_option linter.unusedVariables false
set_option maxRecDepth 100000
namespace Go.Proofs.Ytpnkjfjkeoleaaa.LD
open Go.RowKit HK
open Go.Proofs.Ytpnkjfjkeoleaaa.B (bytesOf bytesOf_len bytesOf_lt)

/-- Strings in new memory: what a level and the nodes are. -/
def LevPost (w : World) (l : List Str) (e : Ending) (w' : World) : Prop :=
  ∃ (v : Value) (lv : List ByteArray), e = .returned v ∧ lv.map bytesOf = l ∧ w'.ownsRow w.heap.size 9 1 v lv.length (lv.map Value.string) ∧ Below w.heap.size w w'
theorem lev_skip {L : List Str} {N k : Nat} (h : ¬ (N ≤ (at_ L k).length ∧ (levelTo L N k).getLast? ≠ some ((at_ L k).take N))) : levelTo L N (k + 1) = levelTo L N k := by
  simp only [levelTo]; rw [if_neg h]
theorem lev_add {L : List Str} {N k : Nat} {lv : List ByteArray} {s : ByteArray} (hv : lv.map bytesOf = levelTo L N k) (hat : at_ L k = bytesOf s) (h1 : N ≤ s.size) (h2 : (levelTo L N k).getLast? ≠ some ((bytesOf s).take N)) : (lv ++ [s.extract 0 N]).map bytesOf = levelTo L N (k + 1) := by
  simp only [levelTo]
  rw [if_pos ⟨by rw [hat, bytesOf_len]; exact h1, by rw [hat]; exact h2⟩, List.map_append, hv, hat]
  simp [bytesOf_ext]
theorem lev_last {lv : List ByteArray} {m : Nat} {t : ByteArray} (hl : lv.length = m) (hm : 0 < m) (ht : lv[m - 1]? = some t) : (lv.map bytesOf).getLast? = some (bytesOf t) := by
  rw [List.getLast?_eq_getElem?, List.length_map, hl, List.getElem?_map, ht]; rfl

set_option maxHeartbeats 8000000 in
theorem rlevel_any (w : World) (A : Option Addr) (n c N : Nat) (ss : List ByteArray) (hm : n ≤ 20000) (hN : N ≤ 256) (hz : ∀ s ∈ ss, s.size ≤ maxLen) (hs : Sl w w.heap.size A n (ss.map Value.string)) :
    Calls Try.prog 81 #[.slice A n c, .int .i64 N] w (LevPost w (level (ss.map bytesOf) N)) := by
  have HSTR : Hid (∀ W k, Below w.heap.size w W → k < n → StrAt W A (ss.map bytesOf) k) := Lib.hid (fun W k hW hk => strs_at hz (hs.below hW) hk)
  have HLEN : Hid ((ss.map bytesOf).length = n) := Lib.hid (by have := hs.1; simpa using this)
  obtain ⟨i0, hi, hz0, hz1, hz2⟩ := info_parts infoStr
  clear hs hz
  obtain ⟨L, hL⟩ : ∃ L, ss.map bytesOf = L := ⟨_, rfl⟩
  rw [hL] at HSTR HLEN ⊢
  clear hL
  go_enter Try.func81, Try.ntmps81
  go_wp2
  go_loopw [5, 6] (fun o v wr => ∃ (k m : Nat) (lv : List ByteArray) (Ao : Option Addr) (co : Nat), o = .slice Ao m co ∧ v = .int .i64 k ∧ k ≤ n ∧ m ≤ k ∧ Hid (lv.map bytesOf = levelTo L N k ∧ lv.length = m) ∧ Hid (wr.ownsRow w.heap.size 9 1 (.slice Ao m co) m (lv.map Value.string)) ∧ Hid (Below w.heap.size w wr)) (fun _ v _ => n - (intOf v).toNat)
  case atStart => exact ⟨0, 0, [], none, 0, rfl, rfl, Nat.zero_le _, Nat.le_refl _, Lib.hid ⟨rfl, rfl⟩, Lib.hid ⟨rfl, .inl ⟨rfl, rfl⟩⟩, Lib.hid (Below.refl _ _)⟩
  case round =>
    obtain ⟨k, m, lv, Ao, co, rfl, rfl, hk, hmk, HV, HO, HB⟩ := hrel
    by_cases hlt : k < n
    · have hb0 : decide ((k : Int) < (n : Int)) = true := by simp; omega
      obtain ⟨b, off, s, rfl, hc, hat, hsz⟩ := HSTR.out wr k HB.out hlt
      obtain ⟨z, hzs⟩ : ∃ z, s.size = z := ⟨_, rfl⟩
      have hz' : ((s.size : Nat) : Int) = (z : Int) := by rw [hzs]
      have HAT := Lib.hid hat
      have HSZ := Lib.hid hzs
      have hcs := hc
      have i1 : (0 : Int) ≤ (k : Int) := by omega
      have i2 : (k : Int) < (n : Int) := by omega
      clear hat
      by_cases hNz : N ≤ z
      · have g1 : decide ((N : Int) ≤ (z : Int)) = true := by simp; omega
        have hNs : N ≤ s.size := by omega
        rcases Nat.eq_zero_or_pos m with h0 | h0
        · subst h0
          have HNEW : Hid ((lv ++ [s.extract 0 N]).map bytesOf = levelTo L N (k + 1)) := Lib.hid (lev_add HV.out.1 HAT.out hNs (by rw [← HV.out.1, List.eq_nil_of_length_eq_zero HV.out.2]; simp))
          go_wp2
          go_quiet (fail)
          have HO1 := Lib.hid (own_drewN HO.out nq)
          have HB1 := Lib.hid (bel_drewN HB.out nq)
          have hc3 : (wr.drewN nq).cell? ⟨b, off + k, none⟩ = some (.string s) := hc
          obtain ⟨w3, hw3⟩ : ∃ w3, wr.drewN nq = w3 := ⟨_, rfl⟩
          rw [hw3] at HO1 HB1 hc3 ⊢
          have hs3 := HB1.out.size
          clear hw3 hcs
          go_wp2_with (at_builtin; refine wpList_append_own _ rfl _ _ 22 rfl w.heap.size 9 i0 _ 1 16 Try.underlying22 hi hz0 hz1 hz2 rfl (by decide) _ _ _ rfl (HO1.out.alloc _) ⟨w3.heap.size, 0, none⟩ 1 1 [_] rfl rfl (cell_one_new _ _ _) one_str (by unfold maxLen; omega) (by omega) (by simp; omega) ?_; intro v' w4 hown4 hgrow4 _; obtain ⟨g4, c4, rfl, hc4, hcm4⟩ := own_some hown4 (Nat.succ_pos _))
          have HB4 := Lib.hid (bel_app HB1.out (Nat.le_refl _) HO1.out hgrow4)
          have HO4 := Lib.hid hown4
          clear hown4 hgrow4
          go_wp2
          go_roundw
          case rel => exact ⟨k + 1, 1, lv ++ [s.extract 0 N], _, _, rfl, by go_num, by omega, by omega, Lib.hid ⟨HNEW.out, by simp [HV.out.2]⟩, Lib.hid (by simpa using HO4.out), HB4⟩
          case measure => simp [intOf]; omega
        · obtain ⟨t, ht⟩ : ∃ t, lv[m - 1]? = some t := ⟨_, List.getElem?_eq_getElem (by rw [HV.out.2]; omega)⟩
          obtain ⟨g, co', e1, hco, hcm⟩ := own_some HO.out h0
          injection e1 with e1 e2 e3
          subst e1 e3
          have hct : wr.cell? ⟨g, m - 1, none⟩ = some (.string t) := by
            rw [HO.out.cellAt (m - 1) (by omega), List.getElem?_map, ht]; rfl
          have hlast := lev_last HV.out.2 h0 ht
          have g2 : decide ((m : Int) = 0) = false := by simp; omega
          have g2a : ¬ m = 0 := by omega
          have g2b : decide (m = 0) = false := by simp; omega
          have g2c : ((m : Int) == 0) = false := by simp; omega
          have g7 : IntKind.i64.wrap ((m : Int) - 1) = (m : Int) - 1 := IntWalk.i64_in _ (by omega)
          have g3 : (0 : Int) ≤ (m : Int) - 1 := by omega
          have g4 : (m : Int) - 1 < (m : Int) := by omega
          have g5 : ((m : Int) - 1).toNat = m - 1 := by omega
          by_cases he : bytesOf t = (bytesOf s).take N
          · have g6 : (t.toList == (s.extract 0 N).toList) = true := by rw [str_eq, bytesOf_ext]; simpa using he
            have HSAME : Hid (levelTo L N (k + 1) = levelTo L N k) := Lib.hid (lev_skip (by rw [HAT.out, ← HV.out.1, hlast, he]; simp))
            clear he hlast ht
            go_wp2
            go_quiet (fail)
            go_wp2
            go_roundw
            case rel => exact ⟨k + 1, m, lv, _, _, rfl, by go_num, by omega, by omega, Lib.hid (by rw [HSAME.out]; exact HV.out), Lib.hid (own_drewN HO.out _), Lib.hid (bel_drewN HB.out _)⟩
            case measure => simp [intOf]; omega
          · have g6 : (t.toList == (s.extract 0 N).toList) = false := by rw [str_eq, bytesOf_ext]; simpa using he
            have HNEW : Hid ((lv ++ [s.extract 0 N]).map bytesOf = levelTo L N (k + 1)) := Lib.hid (lev_add HV.out.1 HAT.out hNs (by rw [← HV.out.1, hlast]; simpa using he))
            clear he hlast ht
            go_wp2
            go_quiet (fail)
            have HO1 := Lib.hid (own_drewN HO.out nq)
            have HB1 := Lib.hid (bel_drewN HB.out nq)
            have hc3 : (wr.drewN nq).cell? ⟨b, off + k, none⟩ = some (.string s) := hc
            obtain ⟨w3, hw3⟩ : ∃ w3, wr.drewN nq = w3 := ⟨_, rfl⟩
            rw [hw3] at HO1 HB1 hc3 ⊢
            have hs3 := HB1.out.size
            clear hw3 hcs
            go_wp2_with (at_builtin; refine wpList_append_own _ rfl _ _ 22 rfl w.heap.size 9 i0 _ 1 16 Try.underlying22 hi hz0 hz1 hz2 rfl (by decide) _ _ _ rfl (HO1.out.alloc _) ⟨w3.heap.size, 0, none⟩ 1 1 [_] rfl rfl (cell_one_new _ _ _) one_str (by unfold maxLen; omega) (by omega) (by simp; omega) ?_; intro v' w4 hown4 hgrow4 _; obtain ⟨g4, c4, rfl, hc4, hcm4⟩ := own_some hown4 (Nat.succ_pos _))
            have HB4 := Lib.hid (bel_app HB1.out (Nat.le_refl _) HO1.out hgrow4)
            have HO4 := Lib.hid hown4
            clear hown4 hgrow4
            go_wp2
            go_roundw
            case rel => exact ⟨k + 1, m + 1, lv ++ [s.extract 0 N], _, _, rfl, by go_num, by omega, by omega, Lib.hid ⟨HNEW.out, by simp [HV.out.2]⟩, Lib.hid (by simpa using HO4.out), HB4⟩
            case measure => simp [intOf]; omega
      · have g1 : decide ((N : Int) ≤ (z : Int)) = false := by simp; omega
        have HSAME : Hid (levelTo L N (k + 1) = levelTo L N k) := Lib.hid (lev_skip (by rw [HAT.out, bytesOf_len]; omega))
        go_wp2
        go_quiet (fail)
        go_wp2
        go_roundw
        case rel => exact ⟨k + 1, m, lv, _, _, rfl, by go_num, by omega, by omega, Lib.hid (by rw [HSAME.out]; exact HV.out), Lib.hid (own_drewN HO.out _), Lib.hid (bel_drewN HB.out _)⟩
        case measure => simp [intOf]; omega
    · obtain rfl : k = n := by omega
      have hb0 : decide ((k : Int) < (k : Int)) = false := by simp
      go_wp2
      go_ret
      exact ⟨_, lv, rfl, by unfold level; rw [HLEN.out]; exact HV.out.1, by rw [HV.out.2]; exact HO.out, HB.out⟩
theorem levelTo_le (L : List Str) (N : Nat) : ∀ k, (levelTo L N k).length ≤ k
  | 0 => by simp [levelTo]
  | k + 1 => by
    have := levelTo_le L N k
    simp only [levelTo]
    split
    · rw [List.length_append]; simp; omega
    · omega
theorem own_str1 (w : World) : (w.alloc (.cells #[.string ⟨#[]⟩] 9)).ownsRow w.heap.size 9 1 (.slice (some ⟨w.heap.size, 0, none⟩) 1 1) 1 [.string ⟨#[]⟩] := World.ownsRow_lit w #[.string ⟨#[]⟩] 1 (Nat.le_refl _) (by decide) rfl
set_option maxHeartbeats 8000000 in
theorem rnodes_any (w : World) (A : Option Addr) (n c : Nat) (ss : List ByteArray) (hm : n ≤ 20000) (hz : ∀ s ∈ ss, s.size ≤ maxLen) (hs : Sl w w.heap.size A n (ss.map Value.string)) :
    Calls Try.prog 58 #[.slice A n c] w (LevPost w (nodes (ss.map bytesOf))) := by
  have HLV : Hid (∀ W N, Below w.heap.size w W → N ≤ 256 → Calls Try.prog 81 #[.slice A n c, .int .i64 (N : Nat)] W (LevPost W (level (ss.map bytesOf) N))) := Lib.hid (fun W N hW hN => rlevel_any W A n c N ss hm hN hz ((hs.below hW).more hW.size))
  have HLEN : Hid ((ss.map bytesOf).length = n) := Lib.hid (by have := hs.1; simpa using this)
  obtain ⟨i0, hi, hz0, hz1, hz2⟩ := info_parts infoStr
  clear hs hz
  obtain ⟨L, hL⟩ : ∃ L, ss.map bytesOf = L := ⟨_, rfl⟩
  rw [hL] at HLV HLEN ⊢
  clear hL
  have HO0 := Lib.hid (own_str1 w)
  go_enter Try.func58, Try.ntmps58
  go_wp2
  go_loopw [3, 4] (fun o v wr => ∃ (j m : Nat) (lv : List ByteArray) (Ao : Option Addr) (co : Nat), o = .slice Ao m co ∧ v = .int .i64 ((j : Int) + 1) ∧ j ≤ 256 ∧ m ≤ 1 + 20000 * j ∧ Hid (lv.map bytesOf = nodesTo L j ∧ lv.length = m) ∧ Hid (wr.ownsRow w.heap.size 9 1 (.slice Ao m co) m (lv.map Value.string)) ∧ Hid (Below w.heap.size w wr)) (fun _ v _ => 257 - (intOf v).toNat)
  case atStart => exact ⟨0, 1, [⟨#[]⟩], _, _, rfl, rfl, Nat.zero_le _, by omega, Lib.hid ⟨rfl, rfl⟩, HO0, Lib.hid ((Below.refl w.heap.size w).alloc (Nat.le_refl _) _)⟩
  case round =>
    obtain ⟨j, m, lv, Ao, co, rfl, rfl, hj, hmj, HV, HO, HB⟩ := hrel
    by_cases hlt : j < 256
    · have hb0 : decide ((j : Int) + 1 ≤ 256) = true := by simp; omega
      have hcl := HLV.out wr (j + 1) HB.out (by omega)
      rw [show (((j + 1 : Nat)) : Int) = (j : Int) + 1 by omega] at hcl
      have HCL := Lib.hid hcl
      have hs1 := HB.out.size
      clear hcl
      go_wp2_with fail
      refine HCL.out.mono ?_
      rintro e w2 ⟨v2, lv2, rfl, he2, hown2, hB2⟩
      have hl2 : lv2.length ≤ n := by
        have h1 := levelTo_le L (j + 1) L.length
        have h2 := congrArg List.length he2
        rw [List.length_map] at h2
        unfold level at h2
        rw [h2, ← HLEN.out]; exact h1
      obtain ⟨A2, c2, rfl, -, -⟩ := own_shape hown2
      have HV2 := Lib.hid he2
      have HS2 := Lib.hid (Sl.of_own hown2)
      have HO2 := Lib.hid (own_below HO.out hB2 (fun q hq => (HO.out.lt q hq).2))
      have HB2 := Lib.hid (HB.out.trans (hB2.mono hs1))
      have hs2 := HB2.out.size
      obtain ⟨m2, hm2⟩ : ∃ m2, lv2.length = m2 := ⟨_, rfl⟩
      rw [hm2] at hl2 HS2 ⊢
      have HM2 := Lib.hid hm2
      clear he2 hown2 hB2 hm2
      go_wp2_with (at_builtin; refine wpList_append_sl _ rfl _ _ 22 rfl w.heap.size 9 i0 (.string ⟨#[]⟩) 16 Try.underlying22 hi hz0 hz1 hz2 rfl _ _ _ rfl HO2.out w2.heap.size _ _ _ _ rfl HS2.out (strs_one lv2) (by unfold maxLen; omega) (by omega) (by omega) ?_; intro v4 w4 hown4 hgrow4 hblk4; obtain ⟨A4, c4, rfl, -, -⟩ := own_shape hown4)
      have HB4 := Lib.hid (HB2.out.grown hgrow4 hs2 (fun q e => (HO2.out.lt q e).1))
      have HO4 := Lib.hid hown4
      clear hown4 hgrow4 hblk4
      go_wp2
      go_roundw
      case rel => exact ⟨j + 1, m + m2, lv ++ lv2, _, _, rfl, by go_num, by omega, by omega, Lib.hid ⟨by rw [List.map_append, HV.out.1, HV2.out]; rfl, by rw [List.length_append, HV.out.2, HM2.out]⟩, Lib.hid (by rw [List.map_append]; exact HO4.out), HB4⟩
      case measure => simp [intOf]; omega
    · obtain rfl : j = 256 := by omega
      have hb0 : decide (((256 : Nat) : Int) + 1 ≤ 256) = false := by decide
      go_wp2
      go_ret
      exact ⟨_, lv, rfl, HV.out.1, by rw [HV.out.2]; exact HO.out, HB.out⟩
end Go.Proofs.Ytpnkjfjkeoleaaa.LD
