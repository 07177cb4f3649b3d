/- The walks of PackedDecodes and PackedBack. -/
import Derived.Test.YtjjhllbbkflnnaaPkRefDec2
set_option linter.unusedVariables false
namespace Go.Proofs.Ytjjhllbbkflnnaa
open Go.RowKit HK

theorem decodable_facts (bl : List Nat) (h : decodable bl = true) : (decodeL bl).length ≤ 1048576 ∧ (∀ v ∈ decodeL bl, v < 2 ^ 64) ∧ code (decodeL bl) = bl := by
  unfold decodable at h
  simp only [Bool.and_eq_true, decide_eq_true_eq] at h
  obtain ⟨⟨⟨⟨h1, h2⟩, h3⟩, h4⟩, h5⟩ := h
  exact ⟨by unfold decodeL; rw [unpack_length]; exact h2, unpack_lt _ _ _ h3, h5⟩
theorem u8_oneCell (l : List Nat) : ∀ u ∈ l.map u8v, u.oneCell' = true := by
  intro u hu
  obtain ⟨v, _, rfl⟩ := List.mem_map.1 hu
  rfl

set_option maxHeartbeats 4000000 in
theorem decodes_walk (w : World) (A : Option Addr) (n c : Nat) (bl : List Nat) (hn : n ≤ 3000) (hnc : n ≤ c) (hcm : c ≤ 9223372036854775807) (hl : ∀ v ∈ bl, v < 256) (hs : Sl w w.heap.size A n (bl.map u8v)) :
    Calls Try.prog 8 #[.slice A n c] w fun e w' => e = .returned (.bool true) ∧ Below w.heap.size w w' := by
  have hnb : decide ((3000 : Int) < (n : Int)) = false := by simp; omega
  have HL := Lib.hid hl; clear hl
  have HS := Lib.hid hs; clear hs
  obtain ⟨i0, hif, hz0, hz1, hz2⟩ := info_parts infoU8
  have hown0 : (w.alloc (.cells #[] 5)).ownsRow w.heap.size 5 1 (.slice (some ⟨w.heap.size, 0, none⟩) 0 0) 0 [] := World.ownsRow_lit w #[] 0 (Nat.le_refl _) (Nat.zero_le _) rfl
  have HO0 := Lib.hid hown0; clear hown0
  go_enter Try.func8, Try.ntmps8
  go_wp2_with (at_builtin; refine wpList_append_sl _ rfl _ _ 35 rfl w.heap.size 5 i0 (.int .u8 0) 1 Try.underlying35 hif hz0 hz1 hz2 rfl _ _ _ rfl HO0.out w.heap.size _ _ _ _ rfl (HS.out.alloc (Nat.le_refl _) _) (u8_oneCell bl) (by unfold maxLen; omega) (by omega) (by simp) ?_; intro v1 w1 hown1 hgrow1 hblk1; simp only [Nat.zero_add, List.nil_append] at hown1; obtain ⟨A1, c1, rfl, hc1, hcm1⟩ := own_shape hown1)
  have hB1 : Below w.heap.size w w1 := ((Below.refl _ w).alloc (Nat.le_refl _) _).grown hgrow1 (by simp) (fun q e => by cases e; exact Nat.le_refl _)
  have hlt1 := Lib.hid hown1.lt
  have HO1 := Lib.hid hown1; clear hown1 hgrow1 hblk1
  refine (pdec_any w1 A1 n c1 bl hc1 (by unfold maxLen at hcm1; omega) HL.out (Sl.of_own HO1.out)).mono ?_
  rintro e w2 ⟨hB2, ⟨hd, p, g, rfl, hip⟩ | ⟨hd, rfl⟩⟩
  · have hB2' := hB1.trans (hB2.mono hB1.size)
    have HD := Lib.hid hd; have HIP := Lib.hid hip; clear hd hip
    have HBU : Hid (Bump 5 .u8 w2 w2 w.heap.size (.slice A1 n c1) n) := Lib.hid (Bump.start (ys := bl) (own_below HO1.out hB2 (fun q e => (hlt1.out q e).2)))
    clear HO1
    go_wp2_with fail
    go_loopw [6] (fun ix wr => ∃ k : Nat, k ≤ n ∧ ix = .int .i64 k ∧ Bump 5 .u8 w2 wr w.heap.size (.slice A1 n c1) n) (fun ix _ => n - (intOf ix).toNat)
    case atStart => exact ⟨0, Nat.zero_le _, rfl, HBU.out⟩
    case round =>
      obtain ⟨k, hk, rfl, hst⟩ := hrel
      by_cases hlt : k < n
      · obtain ⟨gm, y, rfl, hcy, hfy, hnext⟩ := hst.at_ hlt
        have HN := Lib.hid hnext; clear hnext hst
        go_wp2
        go_roundw
        case rel =>
          refine ⟨k + 1, by omega, by go_num, ?_⟩
          have h1 := HN.out ((y + 1) % 256)
          have e1 : (((y + 1) % 256 : Nat) : Int) = ((y : Int) + 1) % 256 := by omega
          rw [e1] at h1
          exact h1
        case measure => simp [intOf]; omega
      · obtain rfl : n = k := by omega
        have HPr := Lib.hid (HIP.out.grown hst.2 (fun e => by have h1 := (hlt1.out _ e).2; have h2 := HIP.out.2.1; omega) (fun e => by have h1 := (hlt1.out _ e).2; have h2 := HIP.out.2.2; omega))
        have hBr := hB2'.trans (hst.below (Nat.le_refl _) hB2'.size)
        clear hst
        go_wp2_with fail
        refine (rdec_any wr A n c bl hnc hcm HL.out ((HS.out.below hBr).more hBr.size)).mono ?_
        rintro e w3 ⟨hB3, A3, n3, c3, rfl, hown3⟩
        have hB3' := hBr.trans (hB3.mono hBr.size)
        have HO3 := Lib.hid (hown3 HD.out)
        have HP3 := Lib.hid (HPr.out.below hB3 (Nat.le_refl _))
        obtain ⟨hf1, hf2, hf3⟩ := decodable_facts bl HD.out
        have HF1 := Lib.hid hf1; have HF2 := Lib.hid hf2
        have hn3 : n3 ≤ 1048576 := by have := own_len HO3.out; rw [List.length_map] at this; omega
        rw [HD.out]
        clear hown3 hf1 hf2 hf3
        go_wp2_with fail
        refine (has_any w3 _ p g A3 n3 c3 w3.heap.size (decodeL bl) hn3 HF2.out HP3.out (Sl.of_own HO3.out)).mono ?_
        rintro e w4 ⟨rfl, hq4⟩
        have hB4 := hB3'.trans (bel_quiet _ hq4)
        clear hq4
        go_wp2_with fail
        refine (works_true w4).mono ?_
        rintro e w6 ⟨rfl, hB6⟩
        go_wp2
        go_ret
        exact ⟨rfl, hB4.trans (hB6.mono hB4.size)⟩
  · have hB2' := hB1.trans (hB2.mono hB1.size)
    have HD := Lib.hid hd; clear hd
    have HBU : Hid (Bump 5 .u8 w2 w2 w.heap.size (.slice A1 n c1) n) := Lib.hid (Bump.start (ys := bl) (own_below HO1.out hB2 (fun q e => (hlt1.out q e).2)))
    clear HO1
    go_wp2_with fail
    go_loopw [6] (fun ix wr => ∃ k : Nat, k ≤ n ∧ ix = .int .i64 k ∧ Bump 5 .u8 w2 wr w.heap.size (.slice A1 n c1) n) (fun ix _ => n - (intOf ix).toNat)
    case atStart => exact ⟨0, Nat.zero_le _, rfl, HBU.out⟩
    case round =>
      obtain ⟨k, hk, rfl, hst⟩ := hrel
      by_cases hlt : k < n
      · obtain ⟨gm, y, rfl, hcy, hfy, hnext⟩ := hst.at_ hlt
        have HN := Lib.hid hnext; clear hnext hst
        go_wp2
        go_roundw
        case rel =>
          refine ⟨k + 1, by omega, by go_num, ?_⟩
          have h1 := HN.out ((y + 1) % 256)
          have e1 : (((y + 1) % 256 : Nat) : Int) = ((y : Int) + 1) % 256 := by omega
          rw [e1] at h1
          exact h1
        case measure => simp [intOf]; omega
      · obtain rfl : n = k := by omega
        have hBr := hB2'.trans (hst.below (Nat.le_refl _) hB2'.size)
        clear hst
        go_wp2_with fail
        refine (rdec_any wr A n c bl hnc hcm HL.out ((HS.out.below hBr).more hBr.size)).mono ?_
        rintro e w3 ⟨hB3, A3, n3, c3, rfl, hown3⟩
        have hB3' := hBr.trans (hB3.mono hBr.size)
        rw [HD.out]
        clear hown3
        go_wp2_with fail
        refine (works_true w3).mono ?_
        rintro e w6 ⟨rfl, hB6⟩
        go_wp2
        go_ret
        exact ⟨rfl, hB3'.trans (hB6.mono hB3'.size)⟩
set_option maxHeartbeats 1000000 in
theorem decodes_long (w : World) (A : Option Addr) (n c : Nat) (hn : 3000 < n) :
    Calls Try.prog 8 #[.slice A n c] w fun e w' => e = .returned (.bool true) ∧ Below w.heap.size w w' := by
  have hnb : decide ((3000 : Int) < (n : Int)) = true := by simp; omega
  go_enter Try.func8, Try.ntmps8
  go_wp2
  go_ret
  exact ⟨rfl, Below.refl _ _⟩
theorem decodes_all (a0 : Option Addr) (len0 cap0 : Nat) (z0 : List Int) (w : World) (w0 : ArgRow .u8 w a0 len0 cap0 z0) :
    Calls Try.prog 8 #[.slice a0 len0 cap0] w fun e w' => e = .returned (.bool true) ∧ Below w.heap.size w w' := by
  by_cases h : len0 ≤ 3000
  · obtain ⟨l, hl, hc, hcm, hw, hs⟩ := arg_sl w0 nn_u8
    exact decodes_walk w a0 len0 cap0 l h hc (by unfold maxLen at hcm; omega) (fun v hv => lt_u8 v (hw v hv)) hs
  · exact decodes_long w a0 len0 cap0 (by omega)

set_option maxHeartbeats 4000000 in
theorem back_walk (w : World) (A : Option Addr) (n c : Nat) (l : List Nat) (hn : n ≤ 3000) (hl : ∀ v ∈ l, v < 2 ^ 64) (hs : Sl w w.heap.size A n (l.map u64v)) :
    Calls Try.prog 9 #[.slice A n c] w fun e w' => e = .returned (.bool true) ∧ Below w.heap.size w w' := by
  have hnb : decide ((3000 : Int) < (n : Int)) = false := by simp; omega
  have hlen : Hid (l.length = n) := Lib.hid (by have := hs.1; simpa using this)
  have h64 := widthL_le_64 l hl
  have HL := Lib.hid hl; clear hl
  have HS := Lib.hid hs; clear hs
  have hcl : (code l).length ≤ 8388613 := code_len_le l (by rw [hlen.out]; omega) HL.out
  have hdc : Hid (decodable (code l) = true ∧ decodeL (code l) = l) := Lib.hid ⟨decodable_code l (by rw [hlen.out]; omega) h64, decodeL_code l (by rw [hlen.out]; omega) h64⟩
  go_enter Try.func9, Try.ntmps9
  go_wp2_with fail
  refine (new_any w A n c l (by omega) HL.out HS.out).mono ?_
  rintro e w1 ⟨b, g, rfl, hp, hB1⟩
  have HP := Lib.hid hp; clear hp
  go_wp2_with fail
  refine (enc_any w1 _ b g l (by rw [hlen.out]; omega) HL.out HP.out).mono ?_
  rintro e w2 ⟨A2, c2, rfl, hown2, hB2, hc2⟩
  have hB2' : Below w.heap.size w w2 := hB1.trans (hB2.mono hB1.size)
  have HP2 := Lib.hid (HP.out.below hB2 (Nat.le_refl _))
  have HO2 := Lib.hid hown2; clear hown2 HP
  have hcc : (code l).length ≤ c2 := by
    obtain ⟨A', c', hv, h1, h2⟩ := own_shape HO2.out
    injection hv with _ _ hv
    omega
  go_wp2_with fail
  refine (pdec_any w2 A2 _ c2 (code l) hcc (by unfold maxLen at hc2; omega) (code_lt l) (Sl.of_own HO2.out)).mono ?_
  rintro e w3 ⟨hB3, hr⟩
  rw [hdc.out.1, hdc.out.2] at hr
  rcases hr with ⟨_, p, q, rfl, hq⟩ | ⟨hd, _⟩
  · have hB3' := hB2'.trans (hB3.mono hB2'.size)
    have HP3 := Lib.hid (HP2.out.below hB3 (Nat.le_refl _))
    have HO3 := Lib.hid (own_below HO2.out hB3 (fun q e => (HO2.out.lt q e).2))
    have HQ := Lib.hid hq; clear hq HP2 HO2
    go_wp2_with fail
    refine (has_any w3 _ p q A n c w.heap.size l (by omega) HL.out HQ.out (HS.out.below hB3')).mono ?_
    rintro e w4 ⟨rfl, hq4⟩
    have hB4 := hB3'.trans (bel_quiet _ hq4)
    have HP4 := Lib.hid (HP3.out.below (bel_quiet w3.heap.size hq4) (Nat.le_refl _))
    have HQ4 := Lib.hid (HQ.out.below (bel_quiet w3.heap.size hq4) (Nat.le_refl _))
    have HO4 := Lib.hid (own_below HO3.out (bel_quiet w3.heap.size hq4) (fun q e => (HO3.out.lt q e).2))
    clear hq4 HP3 HQ HO3
    have hcp : w4.cell? ⟨b, 1, none⟩ = some (.int .i64 (widthL l)) := HP4.out.1.1.cell 1
    have hcq : w4.cell? ⟨p, 1, none⟩ = some (.int .i64 (widthL l)) := HQ4.out.1.1.cell 1
    have hww : ((widthL l : Int) == (widthL l : Int)) = true := by simp
    go_wp2_with fail
    refine (pwidth_any _ _ _ hcq).mono ?_
    rintro e w' ⟨rfl, rfl⟩
    go_wp2_with fail
    refine (pwidth_any _ _ _ hcp).mono ?_
    rintro e w' ⟨rfl, rfl⟩
    go_wp2_with fail
    refine (enc_any w4 _ p q l (by rw [hlen.out]; omega) HL.out HQ4.out).mono ?_
    rintro e w5 ⟨A5, c5, rfl, hown5, hB5, hc5⟩
    have hB5' := hB4.trans (hB5.mono hB4.size)
    have HO45 := Lib.hid (own_below HO4.out hB5 (fun q e => (HO4.out.lt q e).2))
    have HP5 := Lib.hid (HP4.out.below hB5 (Nat.le_refl _))
    have HO5 := Lib.hid hown5; clear hown5 HO4 HP4 HQ4
    go_wp2_with fail
    refine (same_any w5 A5 A2 _ _ _ _ w5.heap.size (code l) (code l) (by unfold maxLen; omega) (by unfold maxLen; omega) (Sl.of_own HO5.out) (Sl.of_own HO45.out)).mono ?_
    rintro e w6 ⟨rfl, hq6⟩
    have hB6 := hB5'.trans (bel_quiet _ hq6)
    have HP6 := Lib.hid (HP5.out.below (bel_quiet w5.heap.size hq6) (Nat.le_refl _))
    clear hq6 HP5
    have hdt : decide (code l = code l) = true := by simp
    rw [hdt]
    clear hdt
    have hcp6 : w6.cell? ⟨b, 1, none⟩ = some (.int .i64 (widthL l)) := HP6.out.1.1.cell 1
    have hcle := code_length l
    rw [hlen.out] at hcle
    obtain ⟨wd, hwd⟩ : ∃ wd, widthL l = wd := ⟨_, rfl⟩
    rw [hwd] at hcle hcp6 h64
    clear hwd hww hcp hcq
    have hp : n * wd ≤ 192000 := by
      have := Nat.mul_le_mul hn h64
      omega
    have hpi : (n : Int) * (wd : Int) ≤ 192000 := by rw [cast_prod]; omega
    have hpi0 : 0 ≤ (n : Int) * (wd : Int) := by rw [cast_prod]; omega
    have heq : (((code l).length : Int) == 5 + ((n : Int) * (wd : Int) + 7) / 8) = true := by rw [beq_iff_eq, cast_prod]; omega
    have HCL := Lib.hid hcle; clear hcle
    go_wp2_with fail
    refine (pwidth_any _ _ _ hcp6).mono ?_
    rintro e w' ⟨rfl, rfl⟩
    go_wp2_with fail
    refine (works_true w6).mono ?_
    rintro e w7 ⟨rfl, hB7⟩
    go_wp2
    go_ret
    exact ⟨rfl, hB6.trans (hB7.mono hB6.size)⟩
  · cases hd
set_option maxHeartbeats 1000000 in
theorem back_long (w : World) (A : Option Addr) (n c : Nat) (hn : 3000 < n) :
    Calls Try.prog 9 #[.slice A n c] w fun e w' => e = .returned (.bool true) ∧ Below w.heap.size w w' := by
  have hnb : decide ((3000 : Int) < (n : Int)) = true := by simp; omega
  go_enter Try.func9, Try.ntmps9
  go_wp2
  go_ret
  exact ⟨rfl, Below.refl _ _⟩
theorem back_all (a0 : Option Addr) (len0 cap0 : Nat) (z0 : List Int) (w : World) (w0 : ArgRow .u64 w a0 len0 cap0 z0) :
    Calls Try.prog 9 #[.slice a0 len0 cap0] w fun e w' => e = .returned (.bool true) ∧ Below w.heap.size w w' := by
  by_cases h : len0 ≤ 3000
  · obtain ⟨l, hl, hc, hcm, hw, hs⟩ := arg_sl w0 nn_u64
    exact back_walk w a0 len0 cap0 l h (fun v hv => lt_u64 v (hw v hv)) hs
  · exact back_long w a0 len0 cap0 (by omega)
end Go.Proofs.Ytjjhllbbkflnnaa
