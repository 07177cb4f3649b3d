/- louds, the reference of layer 9: Decode. What it returns of the code of some bits: those bits. -/
import Derived.Test.YtpnkjfjkeoleaaaLgParts
import Derived.Test.YtpnkjfjkeoleaaaGBvR
import Derived.Test.YtpnkjfjkeoleaaaBvDec3
set_option linter.unusedVariables false
set_option maxRecDepth 100000
namespace Go.Proofs.Ytpnkjfjkeoleaaa.LD
open Go.RowKit HK
open Go.Proofs.Ytpnkjfjkeoleaaa.B (bytesOf bytesOf_len bytesOf_lt num4b bitsb bitsL bcode bitsb_code num4b_code bitsL_bits bitsL_snoc bcode_lt bcode_len)

def RBitPost (w : World) (bl : List Nat) (e : Ending) (w' : World) : Prop :=
  Below w.heap.size w w' ∧ ∃ (A : Option Addr) (n c : Nat) (l : List Bool) (ok : Bool), e = .returned (.tuple #[.slice A n c, .bool ok]) ∧ n ≤ 1048576 ∧ Sl w' w'.heap.size A n (l.map Value.bool) ∧
    ∀ l', l'.length ≤ 1048576 → bcode l'.length (bitsN l') = bl → ok = true ∧ l = l'
theorem sl_nil (w : World) (B : Nat) : Sl w B none 0 [] := ⟨rfl, fun h => absurd h (Nat.lt_irrefl _)⟩
theorem bytes_at {w : World} {b off n : Nat} {bl : List Nat} (hbl : ∀ v ∈ bl, v < 256) (hs : Sl w w.heap.size (some ⟨b, off, none⟩) n (bl.map B.u8v)) {k : Nat} (hk : k < n) :
    ∃ v, bl[k]? = some v ∧ v < 256 ∧ w.cell? ⟨b, off + k, none⟩ = some (.int .u8 (v : Int)) ∧ b < w.heap.size := by
  obtain ⟨b', off', u, he, hb, hu, hcu⟩ := hs.at_ hk
  injection he with he
  injection he with he1 he2
  subst he1 he2
  obtain ⟨y, hy, rfl⟩ := B.at_u8 hu
  exact ⟨y, hy, hbl y (List.mem_of_getElem? hy), hcu, hb⟩
theorem num4_at {bl : List Nat} {b0 b1 b2 b3 : Nat} (h0 : bl[0]? = some b0) (h1 : bl[1]? = some b1) (h2 : bl[2]? = some b2) (h3 : bl[3]? = some b3) : num4b bl = b0 + b1 * 256 + b2 * 65536 + b3 * 16777216 := by
  have h4 := (List.getElem?_eq_some_iff.1 h3).1
  match bl, h4 with
  | a :: b :: c :: d :: r, _ =>
    simp at h0 h1 h2 h3
    subst h0 h1 h2 h3
    unfold num4b
    simp [packN]
    omega
theorem bitsb_bit {bl : List Nat} (hbl : ∀ v ∈ bl, v < 256) {j v : Nat} (hj : j < num4b bl) (h : bl[4 + j / 8]? = some v) : v / 2 ^ (j % 8) % 2 = bitsb bl / 2 ^ j % 2 := by
  unfold bitsb
  refine dl_bit _ (fun v hv => hbl v (List.mem_of_mem_drop (List.mem_of_mem_take hv))) j v ?_
  rw [List.getElem?_take, if_pos (by omega), List.getElem?_drop]
  exact h
theorem test_of {x y j k : Nat} (h : x / 2 ^ k % 2 = y / 2 ^ j % 2) : y.testBit j = decide (x / 2 ^ k % 2 = 1) := by
  rw [h, Nat.testBit_eq_decide_div_mod_eq]

set_option maxHeartbeats 8000000 in
theorem rbdec_any (w : World) (A : Option Addr) (n c : Nat) (bl : List Nat) (hbl : ∀ v ∈ bl, v < 256) (hs : Sl w w.heap.size A n (bl.map B.u8v)) (hnc : n ≤ c) (hcm : c ≤ maxLen) :
    Calls Try.prog 63 #[.slice A n c] w (RBitPost w bl) := by
  have hlen : bl.length = n := by have := hs.1; simpa using this
  unfold maxLen at hcm
  by_cases hn : 4 ≤ n
  case neg =>
    have hnb : decide ((n : Int) < 4) = true := by simp; omega
    have HNO : Hid (∀ l', l'.length ≤ 1048576 → bcode l'.length (bitsN l') = bl → False) := Lib.hid (fun l' _ e => by have h := congrArg List.length e; rw [bcode_len, hlen] at h; omega)
    clear hbl hs hlen
    go_enter Try.func63, Try.ntmps63
    go_wp2
    go_ret2
    exact ⟨Below.refl _ _, none, 0, 0, [], false, rfl, by omega, sl_nil _ _, fun l' h e => (HNO.out l' h e).elim⟩
  obtain ⟨b, off, rfl⟩ := sl_some hs (by omega)
  have hnb : decide ((n : Int) < 4) = false := by simp; omega
  obtain ⟨b0, e0, h0, c0, -⟩ := bytes_at hbl hs (k := 0) (by omega)
  obtain ⟨b1, e1, h1, c1, -⟩ := bytes_at hbl hs (k := 1) (by omega)
  obtain ⟨b2, e2, h2, c2, -⟩ := bytes_at hbl hs (k := 2) (by omega)
  obtain ⟨b3, e3, h3, c3, -⟩ := bytes_at hbl hs (k := 3) (by omega)
  rw [Nat.add_zero] at c0
  have eN := num4_at e0 e1 e2 e3
  obtain ⟨N4, hN4⟩ : ∃ N4, num4b bl = N4 := ⟨_, rfl⟩
  rw [hN4] at eN
  have i0 : (0 : Int) < (n : Int) := by omega
  have i1 : (1 : Int) < (n : Int) := by omega
  have i2 : (2 : Int) < (n : Int) := by omega
  have i3 : (3 : Int) < (n : Int) := by omega
  have hsum : (b0 : Int) + 256 * (b1 : Int) + 65536 * (b2 : Int) + 16777216 * (b3 : Int) = (N4 : Int) := by omega
  have hNb : N4 < 4294967296 := by omega
  have HNC : Hid (∀ l', l'.length ≤ 1048576 → bcode l'.length (bitsN l') = bl → N4 = l'.length ∧ 4 + 8 * ((N4 + 63) / 64) ≤ n ∧ N4 ≤ 1048576 ∧ bitsL (bitsb bl) N4 = l') := Lib.hid (fun l' hl e => by
    have e1 : N4 = l'.length := by rw [← hN4, ← e, num4b_code _ _ hl]
    have e2 := congrArg List.length e
    rw [bcode_len, hlen] at e2
    refine ⟨e1, by rw [e1]; omega, by omega, ?_⟩
    rw [← e, bitsb_code _ _ hl (bitsN_lt l'), e1, bitsL_bits])
  have HN4 := Lib.hid hN4; have HS := Lib.hid hs; have HBL := Lib.hid hbl
  clear eN e0 e1 e2 e3 hN4 hs hbl
  by_cases hok : N4 ≤ 1048576
  case neg =>
    have g1 : decide ((1048576 : Int) < (N4 : Int)) = true := by simp; omega
    go_enter Try.func63, Try.ntmps63
    go_wp2
    go_quiet (fail)
    go_wp2
    go_ret2
    exact ⟨bel_drewN (Below.refl _ _) _, none, 0, 0, [], false, rfl, by omega, sl_nil _ _, fun l' h e => absurd (HNC.out l' h e).2.2.1 hok⟩
  have g1 : decide ((1048576 : Int) < (N4 : Int)) = false := by simp; omega
  obtain ⟨M, hM⟩ : ∃ M : Nat, ((N4 : Int) + 63) / 64 = (M : Int) := ⟨(N4 + 63) / 64, by omega⟩
  have hMb : M ≤ 16384 := by omega
  by_cases hfit : 4 + 8 * M ≤ n
  case neg =>
    have g2 : decide ((n : Int) < 4 + 8 * (M : Int)) = true := by simp; omega
    go_enter Try.func63, Try.ntmps63
    go_wp2
    go_quiet (fail)
    go_wp2
    go_ret2
    exact ⟨bel_drewN (Below.refl _ _) _, none, 0, 0, [], false, rfl, by omega, sl_nil _ _, fun l' h e => absurd (HNC.out l' h e).2.1 (by omega)⟩
  have g2 : decide ((n : Int) < 4 + 8 * (M : Int)) = false := by simp; omega
  obtain ⟨ib, hib, hb0z, hb1z, hb2z⟩ := info_parts B.infoBool
  obtain ⟨X, hX⟩ : ∃ X, bitsb bl = X := ⟨_, rfl⟩
  have HBT : Hid (∀ j v, j < N4 → bl[4 + j / 8]? = some v → X.testBit j = decide (v / 2 ^ (j % 8) % 2 = 1)) := Lib.hid (fun j v hj hv => by
    rw [← hX]; exact test_of (bitsb_bit HBL.out (by rw [HN4.out]; exact hj) hv))
  rw [hX] at HNC
  clear hX
  go_enter Try.func63, Try.ntmps63
  go_wp2
  go_quiet (fail)
  have hM8 : N4 ≤ 64 * M := by omega
  clear hsum i0 i1 i2 i3 c0 c1 c2 c3 hM
  go_wp2
  go_loopw [5, 6] (fun o ix wr => ∃ k : Nat, k ≤ N4 ∧ ix = .int .i64 k ∧ Hid (wr.ownsRow w.heap.size 4 1 o k ((bitsL X k).map Value.bool)) ∧ Hid (Below w.heap.size w wr)) (fun _ ix _ => N4 - (intOf ix).toNat)
  case atStart => exact ⟨0, Nat.zero_le _, rfl, Lib.hid (World.ownsRow_nil _ _ _ _), Lib.hid (bel_drewN (Below.refl _ _) _)⟩
  case round =>
    obtain ⟨k, hk, rfl, HO, HB⟩ := hrel
    have hsw := HB.out.size
    by_cases hlt : k < N4
    · have hb0 : decide ((k : Int) < (N4 : Int)) = true := by simp; omega
      obtain ⟨y, hy, hy2, hcy0, hby⟩ := bytes_at HBL.out HS.out (k := 4 + k / 8) (by omega)
      have hcy : wr.cell? ⟨b, off + (4 + k / 8), none⟩ = some (.int .u8 (y : Int)) := (HB.out.cell (p := ⟨b, off + (4 + k / 8), none⟩) hby).trans hcy0
      have htb := HBT.out k y hlt hy
      have hin : 4 + (k : Int) / 8 < (n : Int) := by omega
      have HTB := Lib.hid htb
      obtain ⟨t, ht⟩ : ∃ t, (((y : Int) / 2 ^ (k % 8)).tmod 2 == 1) = t := ⟨_, rfl⟩
      have HT : Hid (t = X.testBit k) := Lib.hid (by
        rw [HTB.out, ← ht]
        by_cases h1 : y / 2 ^ (k % 8) % 2 = 1
        · rw [tmod_bit1 y _ h1]; simp [h1]
        · rw [tmod_bit0 y _ h1]; simp [h1])
      clear hy hcy0 hby htb
      go_wp2_with (at_builtin; refine wpList_append_own _ rfl _ _ 79 rfl w.heap.size 4 ib (.bool false) 1 1 Try.underlying79 hib hb0z hb1z hb2z rfl (by decide) _ _ _ rfl (HO.out.alloc _) ⟨wr.heap.size, 0, none⟩ 1 1 [_] rfl rfl (cell_one_new _ _ _) B.one_bool (by unfold maxLen; omega) (by omega) (by simp; omega) ?_; intro v' w1 hown1 hgrow1 _)
      have HB1 := Lib.hid (bel_app HB.out (Nat.le_refl _) HO.out hgrow1)
      have HO1 := Lib.hid hown1
      clear hown1 hgrow1
      go_wp2
      go_roundw
      case rel =>
        exact ⟨k + 1, hlt, by go_num, Lib.hid (by have h := HO1.out; rw [HT.out] at h; rw [bitsL_snoc, List.map_append]; exact h), HB1⟩
      case measure => simp [intOf]; omega
    · obtain rfl : k = N4 := by omega
      have hb0 : decide ((k : Int) < (k : Int)) = false := by simp
      obtain ⟨A1, d1, rfl, -, -⟩ := own_shape HO.out
      have hxl := bcode_lt k (bitsN (bitsL X k))
      have HEN := Lib.hid (B.rbenc_any wr.drew A1 k d1 (bitsL X k) (by omega) (Sl.of_own HO.out).drew)
      have HY : Hid (∀ l', l'.length ≤ 1048576 → bcode l'.length (bitsN l') = bl → bcode k (bitsN (bitsL X k)) = bl ∧ bitsL X k = l') := Lib.hid (fun l' h e => by
        obtain ⟨h1, h2, h3, h4⟩ := HNC.out l' h e
        exact ⟨by rw [h4, h1]; exact e, h4⟩)
      obtain ⟨Y, hY⟩ : ∃ Y, bcode k (bitsN (bitsL X k)) = Y := ⟨_, rfl⟩
      rw [hY] at hxl HEN HY
      have hbq := bs_beq Y bl hxl HBL.out
      obtain ⟨t, ht⟩ : ∃ t, decide (Y = bl) = t := ⟨_, rfl⟩
      rw [ht] at hbq
      have HT := Lib.hid ht
      have hcb : (convert 26 9 (.slice (some ⟨b, off, none⟩) n c)).run Try.prog wr.drew = .ok (.string (bs bl)) wr.drew := conv_sl (P := Try.prog) 26 5 9 Try.underlying26 Try.underlying5 Try.underlying9 ((HS.out.below HB.out).drew) c
      clear hY hxl ht
      go_wp2_with fail
      refine wp_region_held_drew (S := fun w' => (convert 26 9 (.slice (some ⟨b, off, none⟩) n c)).run Try.prog w' = .ok (.string (bs bl)) w') (by kernel_rfl) hcb (fun hHeld => ?_)
      refine wpAnyH_take (i := 0) (oi := _) (v := ?_) rfl (by kernel_rfl) (by kernel_rfl) (by kernel_rfl) (fun _ _ _ h => h) (Or.inl ⟨by rfl, ?_⟩) hHeld ?_
      rotate_left
      · (intro w hSw; (try dsimp only at hSw); simp only [List.getElem_toArray, List.getElem_cons_zero]; go_simp; try with_reducible rfl)
      simp only [List.getElem_toArray, List.getElem_cons_zero, Act.put, List.setIfInBounds_toArray, List.set_cons_zero, List.set_cons_succ]
      refine wpAnyH_take (i := 1) (oi := _) (v := ?_) rfl (by kernel_rfl) (by kernel_rfl) (by kernel_rfl) (fun _ _ _ h => h) (Or.inl ⟨by rfl, ?_⟩) hHeld ?_
      rotate_left
      · (intro w hSw; (try dsimp only at hSw); simp only [List.getElem_toArray, List.getElem_cons_zero, List.getElem_cons_succ]; go_simp; try with_reducible rfl)
      simp only [List.getElem_toArray, List.getElem_cons_zero, List.getElem_cons_succ, Act.put, List.setIfInBounds_toArray, List.set_cons_zero, List.set_cons_succ]
      refine wpAnyH_take (i := 4) (oi := _) (v := ?_) rfl (by kernel_rfl) (by kernel_rfl) (by kernel_rfl) (fun _ _ _ h => h) (Or.inl ⟨by rfl, ?_⟩) hHeld ?_
      rotate_left
      · (intro w hSw; (try dsimp only at hSw); simp only [List.getElem_toArray, List.getElem_cons_zero, List.getElem_cons_succ]; go_simp; try with_reducible rfl)
      simp only [List.getElem_toArray, List.getElem_cons_zero, List.getElem_cons_succ, Act.put, List.setIfInBounds_toArray, List.set_cons_zero, List.set_cons_succ]
      refine wpAnyH_take (i := 5) (oi := _) (v := ?_) rfl (by kernel_rfl) (by kernel_rfl) (by kernel_rfl) (fun _ _ _ h => h) (Or.inl ⟨by rfl, ?_⟩) hHeld ?_
      rotate_left
      · (intro w hSw; (try dsimp only at hSw); simp only [List.getElem_toArray, List.getElem_cons_zero, List.getElem_cons_succ]; go_simp; try with_reducible rfl)
      simp only [List.getElem_toArray, List.getElem_cons_zero, List.getElem_cons_succ, Act.put, List.setIfInBounds_toArray, List.set_cons_zero, List.set_cons_succ]
      refine wpAnyH_ready (rs := [2]) (by kernel_rfl) (by simp) ?_
      refine AllReadyH.cons (o := _) rfl (fun K hK => ?_) AllReadyH.nil
      go_simp
      refine HEN.out.mono ?_
      rintro e w8 ⟨v8, rfl, hown8, hB8⟩
      obtain ⟨A8, c8, rfl, -, -⟩ := own_shape hown8
      have hcv8 := B.conv_put hown8
      have HO8 := Lib.hid (own_below (w := wr.drew) HO.out hB8 (fun q hq => (HO.out.lt q hq).2))
      have HB8 := Lib.hid (HB.out.drew.trans (hB8.mono HB.out.size))
      have hcb8 : (convert 26 9 (.slice (some ⟨b, off, none⟩) n c)).run Try.prog w8 = .ok (.string (bs bl)) w8 := conv_sl (P := Try.prog) 26 5 9 Try.underlying26 Try.underlying5 Try.underlying9 (HS.out.below HB8.out) c
      clear hown8 hB8
      go_wp2_with fail
      refine hK.out _ _ (hcb8) (fun hHeld => ?_)
      clear hK K
      try simp only [Act.put, List.setIfInBounds_toArray, List.set_cons_zero, List.set_cons_succ]
      refine wpAnyH_take (i := 7) (oi := _) (v := ?_) rfl (by kernel_rfl) (by kernel_rfl) (by kernel_rfl) (fun _ _ _ h => h) (Or.inl ⟨by rfl, ?_⟩) hHeld ?_
      rotate_left
      · (intro w hSw; (try dsimp only at hSw); simp only [List.getElem_toArray, List.getElem_cons_zero, List.getElem_cons_succ]; go_simp; try with_reducible rfl)
      simp only [List.getElem_toArray, List.getElem_cons_zero, List.getElem_cons_succ, Act.put, List.setIfInBounds_toArray, List.set_cons_zero, List.set_cons_succ]
      refine wpAnyH_ready (rs := [3]) (by kernel_rfl) (by simp) ?_
      refine AllReadyH.cons (o := _) rfl (fun K hK => ?_) AllReadyH.nil
      go_simp
      refine hK.out _ _ (hcb8) (fun hHeld => ?_)
      clear hK K
      try simp only [Act.put, List.setIfInBounds_toArray, List.set_cons_zero, List.set_cons_succ]
      refine wpAnyH_take (i := 6) (oi := _) (v := ?_) rfl (by kernel_rfl) (by kernel_rfl) (by kernel_rfl) (fun _ _ _ h => h) (Or.inl ⟨by rfl, ?_⟩) hHeld ?_
      rotate_left
      · (intro w hSw; (try dsimp only at hSw); simp only [List.getElem_toArray, List.getElem_cons_zero, List.getElem_cons_succ]; go_simp; try with_reducible rfl)
      simp only [List.getElem_toArray, List.getElem_cons_zero, List.getElem_cons_succ, Act.put, List.setIfInBounds_toArray, List.set_cons_zero, List.set_cons_succ]
      refine wpAnyH_take (i := 8) (oi := _) (v := ?_) rfl (by kernel_rfl) (by kernel_rfl) (by kernel_rfl) (fun _ _ _ h => h) (Or.inl ⟨by rfl, ?_⟩) hHeld ?_
      rotate_left
      · (intro w hSw; (try dsimp only at hSw); simp only [List.getElem_toArray, List.getElem_cons_zero, List.getElem_cons_succ]; go_simp; try with_reducible rfl)
      simp only [List.getElem_toArray, List.getElem_cons_zero, List.getElem_cons_succ, Act.put, List.setIfInBounds_toArray, List.set_cons_zero, List.set_cons_succ]
      refine wpAnyH_done (by kernel_rfl) ?_ _
      go_wp2
      go_ret2
      exact ⟨HB8.out, A1, k, d1, bitsL X k, t, rfl, by omega, Sl.of_own HO8.out, fun l' h e => ⟨by rw [← HT.out]; exact decide_eq_true (HY.out l' h e).1, (HY.out l' h e).2⟩⟩
end Go.Proofs.Ytpnkjfjkeoleaaa.LD
