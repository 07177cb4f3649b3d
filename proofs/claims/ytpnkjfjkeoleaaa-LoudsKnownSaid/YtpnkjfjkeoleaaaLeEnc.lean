/- louds: Encode. -/
import Derived.Test.YtpnkjfjkeoleaaaLePart
import Derived.Test.YtpnkjfjkeoleaaaGLdW
set_option linter.unusedVariables false
set_option maxRecDepth 100000
namespace Go.Proofs.Ytpnkjfjkeoleaaa.LD
open Go.RowKit HK
open Go.Proofs.Ytpnkjfjkeoleaaa.B (bytesOf bytesOf_len bytesOf_lt PutInv benc_any bcode bcode_len Bv)

theorem shapeC_len {L : List Str} {ks : List (List Span)} (F : Full L ks) : (shapeC ks).length ≤ 200000 := by
  unfold shapeC
  have := shape_len' F
  have := F.few
  rw [bcode_len]
  omega
theorem marksC_len {L : List Str} {ks : List (List Span)} (F : Full L ks) : (marksC L ks).length ≤ 200000 := by
  unfold marksC
  have := F.few
  rw [bcode_len]
  omega
theorem labsC_len {L : List Str} {ks : List (List Span)} (F : Full L ks) : (labsC L ks).length + 1 = ks.length := by
  unfold labsC
  rw [List.length_map]
  exact F.flat
theorem idsOf_len {L : List Str} {ks : List (List Span)} (F : Full L ks) : (idsOf L (allOf L ks)).length ≤ ks.length := by
  unfold idsOf
  rw [List.length_map]
  exact Nat.le_trans (List.length_filter_le _ _) (by rw [F.len]; exact Nat.le_refl _)
theorem idsC_len {L : List Str} {ks : List (List Span)} (F : Full L ks) : (idsC L ks).length ≤ 4200000 := by
  unfold idsC
  rw [code_length]
  have h1 := idsOf_len F
  have h2 := F.few
  have h3 := widthL_le_64 _ (idsOf_lt F.good (fun x hx => F.bfs.ok F.good x hx))
  have h4 : (idsOf L (allOf L ks)).length * widthL (idsOf L (allOf L ks)) ≤ 524287 * 64 := Nat.mul_le_mul (by omega) h3
  omega
theorem codeK_len (L : List Str) (ks : List (List Span)) : (codeK L ks).length = (4 + (shapeC ks).length) + (4 + (labsC L ks).length) + (4 + (marksC L ks).length) + (4 + (idsC L ks).length) := by
  unfold codeK partL
  simp [bytesN]
  omega
theorem sep_lt {w : World} {base M : Nat} {o : Value} {e : TypeId} {xs : List Value} (ho : w.ownsRow base e 1 o M xs) {A : Option Addr} {n : Nat} (h : ∀ a, A = some a → 0 < n → w.heap.size ≤ a.block ∨ a.block < base) : ∀ a, A = some a → 0 < n → o.ownBlock ≠ some a.block := by
  intro a ha hn e
  have := ho.lt a.block e
  rcases h a ha hn with h1 | h1 <;> omega
theorem own_from {w : World} {base : Nat} {e : TypeId} {s n c : Nat} {A : Option Addr} {xs : List Value} (h : w.ownsRow base e s (.slice A n c) n xs) : ∀ a, A = some a → base ≤ a.block := by
  intro a ha
  rcases h.2 with ⟨hv, _⟩ | ⟨g, cap, cur, hv, hb, _⟩
  · injection hv with h1; rw [h1] at ha; cases ha
  · injection hv with h1; rw [h1] at ha; injection ha with ha; rw [← ha]; exact hb

set_option maxHeartbeats 4000000 in
theorem lenc_any (w : World) (S E tb : Nat) (L : List Str) (ks : List (List Span)) (h : TR w S E tb L ks) :
    Calls Try.prog 17 #[.pointer (some ⟨tb, 0, none⟩)] w fun e w' => ∃ v, e = .returned v ∧ PutInv w w' w.heap.size v (codeK L ks).length (codeK L ks) := by
  have F := Lib.hid h.full
  have hsC := shapeC_len F.out
  have hmC := marksC_len F.out
  have hlC := labsC_len F.out
  have hiC := idsC_len F.out
  have hfew := F.out.few
  have HCL := Lib.hid (codeK_len L ks)
  have HCD : Hid (codeK L ks = partL (shapeC ks) ++ partL (labsC L ks) ++ partL (marksC L ks) ++ partL (idsC L ks)) := Lib.hid rfl
  have hlow := h.low
  have HT := Lib.hid h
  obtain ⟨b1, b2, A3, c3, b4, g4, A5, c5, hc0, hc1, hc2, hc3, hc4, hb1, hb2, hs3, hp, hs5⟩ := h.cells
  have HC0 : Hid (∀ W, Below w.heap.size w W → W.cell? ⟨tb, 0, none⟩ = some (.pointer (some ⟨b1, 0, none⟩)) ∧ W.cell? ⟨tb, 1, none⟩ = some (.pointer (some ⟨b2, 0, none⟩)) ∧ W.cell? ⟨tb, 2, none⟩ = some (.slice A3 ks.flatten.length c3) ∧ W.cell? ⟨tb, 3, none⟩ = some (.pointer (some ⟨b4, 0, none⟩))) := Lib.hid (fun W hW =>
    ⟨(hW.cell (p := ⟨tb, 0, none⟩) (cell_lt hc0)).trans hc0, (hW.cell (p := ⟨tb, 1, none⟩) (cell_lt hc1)).trans hc1, (hW.cell (p := ⟨tb, 2, none⟩) (cell_lt hc2)).trans hc2, (hW.cell (p := ⟨tb, 3, none⟩) (cell_lt hc3)).trans hc3⟩)
  have HE1 : Hid (∀ W, Below w.heap.size w W → Calls Try.prog 39 #[.pointer (some ⟨b1, 0, none⟩)] W fun e w' => ∃ v, e = .returned v ∧ PutInv W w' W.heap.size v (shapeC ks).length (shapeC ks)) := Lib.hid (fun W hW => by
    have h1 := benc_any W S E b1 _ _ (hb1.agree (Agree.of_below hW hlow)) (Nat.le_trans hlow hW.size)
    rw [← bcode_len] at h1
    exact h1)
  have HE2 : Hid (∀ W, Below w.heap.size w W → Calls Try.prog 39 #[.pointer (some ⟨b2, 0, none⟩)] W fun e w' => ∃ v, e = .returned v ∧ PutInv W w' W.heap.size v (marksC L ks).length (marksC L ks)) := Lib.hid (fun W hW => by
    have h1 := benc_any W S E b2 _ _ (hb2.agree (Agree.of_below hW hlow)) (Nat.le_trans hlow hW.size)
    rw [← bcode_len] at h1
    exact h1)
  have HE4 : Hid (∀ W, Below w.heap.size w W → Calls Try.prog 40 #[.pointer (some ⟨b4, 0, none⟩)] W fun e w' => ∃ v, e = .returned v ∧ W.heap.size ≤ w'.heap.size ∧ w'.ownsRow W.heap.size 5 1 v (idsC L ks).length ((idsC L ks).map B.u8v) ∧ Below W.heap.size W w') := Lib.hid (fun W hW => by
    have hi := idsOf_len F.out
    have hp' : PR W b4 g4 _ _ _ := ⟨(hW.block b4 hp.1.lt).trans hp.1, (hW.block g4 hp.2.lt).trans hp.2⟩
    refine (penc_walk W b4 g4 _ _ _ (by omega) (widthL_le_64 _ (idsOf_lt F.out.good (fun x hx => F.out.bfs.ok F.out.good x hx))) hp').mono ?_
    rintro e w' ⟨v, rfl, h1, h2⟩
    have e1 : (idsC L ks).length = 5 + ((idsOf L (allOf L ks)).length * widthL (idsOf L (allOf L ks)) + 7) / 8 := code_length _
    rw [← e1] at h1
    exact ⟨v, rfl, h2.size, h1, h2⟩)
  have HLB : Hid (∀ W, Below w.heap.size w W → Sl W w.heap.size A3 ks.flatten.length ((labsC L ks).map B.u8v)) := Lib.hid (fun W hW => (hs3.sl.more hlow).below hW)
  have HLA : Hid (∀ a, A3 = some a → 0 < ks.flatten.length → a.block < w.heap.size) := Lib.hid (fun a ha h0 => by
    obtain ⟨b, off, e, hb, _⟩ := (hs3.sl.more hlow).2 h0
    rw [e] at ha; injection ha with ha; rw [← ha]; exact hb)
  have hfl : ks.flatten.length = (labsC L ks).length := by unfold labsC; rw [List.length_map]
  rw [hfl] at HC0 HLB HLA
  clear h hb1 hb2 hs3 hp hs5 hc0 hc1 hc2 hc3 hc4 hfl
  obtain ⟨n1, hn1⟩ : ∃ n1, (shapeC ks).length = n1 := ⟨_, rfl⟩
  obtain ⟨n2, hn2⟩ : ∃ n2, (labsC L ks).length = n2 := ⟨_, rfl⟩
  obtain ⟨n3, hn3⟩ : ∃ n3, (marksC L ks).length = n3 := ⟨_, rfl⟩
  obtain ⟨n4, hn4⟩ : ∃ n4, (idsC L ks).length = n4 := ⟨_, rfl⟩
  have HN1 := Lib.hid hn1; have HN2 := Lib.hid hn2; have HN3 := Lib.hid hn3; have HN4 := Lib.hid hn4
  rw [hn1, hn2, hn3, hn4] at HCL
  rw [hn1] at hsC HE1
  rw [hn2] at hlC HC0 HLB HLA
  rw [hn3] at hmC HE2
  rw [hn4] at hiC HE4
  clear hn1 hn2 hn3 hn4
  obtain ⟨hc0, -, -, -⟩ := HC0.out w (Below.refl _ _)
  go_enter Try.func17, Try.ntmps17
  go_wp2_with fail
  refine (HE1.out w (Below.refl _ _)).mono ?_
  rintro e w1 ⟨v1, rfl, hown1, hB1⟩
  obtain ⟨A1, d1, rfl, -, -⟩ := own_shape hown1
  have HP1 := Lib.hid (lpart_any w1 w.heap.size (.slice none 0 0) 0 [] A1 n1 d1 (shapeC ks) hB1.size (by omega) (by omega) ⟨rfl, .inl ⟨rfl, rfl⟩⟩ (Sl.of_own hown1) (fun a _ _ e => by cases e))
  have HB1 := Lib.hid hB1
  clear hown1 hB1 hc0
  go_wp2_with fail
  refine HP1.out.mono ?_
  rintro e w2 ⟨v2, rfl, hown2, hB2⟩
  rw [List.nil_append, HN1.out, Nat.zero_add] at hown2
  have HB2 := Lib.hid (HB1.out.trans hB2)
  have HO2 := Lib.hid hown2
  obtain ⟨-, -, hc2, -⟩ := HC0.out w2 HB2.out
  have HP2 := Lib.hid (lpart_any w2 w.heap.size v2 (4 + n1) (partL (shapeC ks)) A3 n2 c3 (labsC L ks) HB2.out.size (by omega) (by omega) HO2.out ((HLB.out w2 HB2.out).more HB2.out.size) (sep_lt HO2.out (fun a ha h0 => .inr (HLA.out a ha h0))))
  clear hown2 hB2
  go_wp2_with fail
  refine HP2.out.mono ?_
  rintro e w3 ⟨v3, rfl, hown3, hB3⟩
  rw [HN2.out] at hown3
  have HB3 := Lib.hid (HB2.out.trans hB3)
  have HO3 := Lib.hid hown3
  obtain ⟨-, hc1, -, -⟩ := HC0.out w3 HB3.out
  clear hown3 hB3 hc2
  go_wp2_with fail
  refine (HE2.out w3 HB3.out).mono ?_
  rintro e w4 ⟨v4, rfl, hown4, hB4⟩
  obtain ⟨A4, d4, rfl, -, -⟩ := own_shape hown4
  have HB4 := Lib.hid (HB3.out.trans (hB4.mono HB3.out.size))
  have HO4 := Lib.hid (own_below HO3.out hB4 (fun k hk => (HO3.out.lt k hk).2))
  have HP4 := Lib.hid (lpart_any w4 w.heap.size v3 (4 + n1 + 4 + n2) (partL (shapeC ks) ++ partL (labsC L ks)) A4 n3 d4 (marksC L ks) HB4.out.size (by omega) (by omega) HO4.out (Sl.of_own hown4) (fun a ha _ e => by
    have h1 := own_from hown4 a ha
    have h2 := (HO3.out.lt _ e).2
    omega))
  clear hown4 hB4 hc1
  go_wp2_with fail
  refine HP4.out.mono ?_
  rintro e w5 ⟨v5, rfl, hown5, hB5⟩
  rw [HN3.out] at hown5
  have HB5 := Lib.hid (HB4.out.trans hB5)
  have HO5 := Lib.hid hown5
  obtain ⟨-, -, -, hc3⟩ := HC0.out w5 HB5.out
  clear hown5 hB5
  go_wp2_with fail
  refine (HE4.out w5 HB5.out).mono ?_
  rintro e w6 ⟨v6, rfl, -, hown6, hB6⟩
  obtain ⟨A6, d6, rfl, -, -⟩ := own_shape hown6
  have HB6 := Lib.hid (HB5.out.trans (hB6.mono HB5.out.size))
  have HO6 := Lib.hid (own_below HO5.out hB6 (fun k hk => (HO5.out.lt k hk).2))
  have HP6 := Lib.hid (lpart_any w6 w.heap.size v5 (4 + n1 + 4 + n2 + 4 + n3) (partL (shapeC ks) ++ partL (labsC L ks) ++ partL (marksC L ks)) A6 n4 d6 (idsC L ks) HB6.out.size (by omega) (by omega) HO6.out (Sl.of_own hown6) (fun a ha _ e => by
    have h1 := own_from hown6 a ha
    have h2 := (HO5.out.lt _ e).2
    omega))
  clear hown6 hB6 hc3
  go_wp2_with fail
  refine HP6.out.mono ?_
  rintro e w7 ⟨v7, rfl, hown7, hB7⟩
  rw [HN4.out] at hown7
  have HB7 := Lib.hid (HB6.out.trans hB7)
  have HO7 := Lib.hid hown7
  clear hown7 hB7
  go_wp2
  go_ret
  refine ⟨_, rfl, ?_, HB7.out⟩
  rw [HCL.out, HCD.out, show 4 + n1 + (4 + n2) + (4 + n3) + (4 + n4) = 4 + n1 + 4 + n2 + 4 + n3 + 4 + n4 by omega]
  exact HO7.out
theorem lenc_nil (w : World) : Calls Try.prog 17 #[.pointer none] w fun e w' => e = .returned (.slice none 0 0) ∧ w = w' := by
  go_enter Try.func17, Try.ntmps17
  go_wp2
  go_ret
  exact ⟨rfl, rfl⟩
end Go.Proofs.Ytpnkjfjkeoleaaa.LD
