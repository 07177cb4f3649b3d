/- louds: Decode. -/
import Derived.Test.YtpnkjfjkeoleaaaLgGrow
import Derived.Test.YtpnkjfjkeoleaaaLgParts
import Derived.Test.YtpnkjfjkeoleaaaLeEnc
import Derived.Test.YtpnkjfjkeoleaaaLwHelp
import Derived.Test.YtpnkjfjkeoleaaaBvDec3
set_option linter.unusedVariables false
set_option maxRecDepth 100000
namespace Go.Proofs.Ytpnkjfjkeoleaaa.LD
open Go.RowKit HK
open Go.Proofs.Ytpnkjfjkeoleaaa.B (bytesOf bytesOf_len bytesOf_lt num4b bitsb isCode BDecPost rk getB Bv PutInv)

theorem bdecode_any (w : World) (A : Option Addr) (n c : Nat) (bl : List Nat) (hbl : ∀ v ∈ bl, v < 256) (hs : Sl w w.heap.size A n (bl.map B.u8v)) (hnc : n ≤ c) (hcm : c ≤ maxLen) :
    Calls Try.prog 42 #[.slice A n c] w (BDecPost w bl) := by
  unfold maxLen at hcm
  by_cases hn : n < 4
  · exact B.bdec_short w A n c bl (by have := hs.1; simpa using this) hn
  · obtain ⟨b, off, rfl, -, -⟩ := hs.2 (by omega)
    by_cases h1 : num4b bl ≤ 1048576
    · by_cases h2 : 4 + 8 * ((num4b bl + 63) / 64) ≤ n
      · exact B.bdec_ok w b off n c bl hbl hs (by omega) hnc (by omega) h1 h2
      · exact B.bdec_bad2 w b off n c bl hbl hs (by omega) hnc (by omega) h1 (by omega)
    · exact B.bdec_bad1 w b off n c bl hbl hs (by omega) hnc (by omega) (by omega)
theorem cat_inj : ∀ {ys zs : List (List Nat)}, ys.length = zs.length → Short ys → Short zs → cat ys = cat zs → ys = zs
  | [], [], _, _, _, _ => rfl
  | [], _ :: _, h, _, _, _ => by simp at h
  | _ :: _, [], h, _, _, _ => by simp at h
  | y :: ys, z :: zs, h, hy, hz, e => by
    obtain ⟨_, h1, _, h2, h3⟩ := cat_front (ys := ys) e (hy y (by simp))
    obtain ⟨_, k1, _, k2, k3⟩ := cat_front (ys := zs) rfl (hz z (by simp))
    have e1 : y = z := h2.trans k2.symm
    have e2 : cat ys = cat zs := h3.trans k3.symm
    rw [e1, cat_inj (by simpa using h) (fun q hq => hy q (by simp [hq])) (fun q hq => hz q (by simp [hq])) e2]
theorem parts_short {L : List Str} {ks : List (List Span)} (F : Full L ks) : Short [shapeC ks, labsC L ks, marksC L ks, idsC L ks] := by
  have h1 := shapeC_len F; have h2 := labsC_len F; have h3 := marksC_len F; have h4 := idsC_len F; have h5 := F.few
  intro y hy
  simp only [List.mem_cons, List.not_mem_nil, or_false] at hy
  rcases hy with rfl | rfl | rfl | rfl <;> omega
theorem bits_lt (l : List Bool) : bitsN l < 2 ^ l.length := by
  have h := B.bits_take_lt l l.length
  rwa [List.take_length] at h
theorem shape_code {L : List Str} {ks : List (List Span)} (F : Full L ks) : isCode (shapeC ks) ∧ num4b (shapeC ks) = (shapeOf ks).length ∧ bitsb (shapeC ks) = bitsN (shapeOf ks) := by
  have h := shape_len' F
  have h5 := F.few
  unfold shapeC
  exact ⟨B.isCode_code _ _ (by omega) (bits_lt _), B.num4b_code _ _ (by omega), B.bitsb_code _ _ (by omega) (bits_lt _)⟩
theorem marks_code {L : List Str} {ks : List (List Span)} (F : Full L ks) : isCode (marksC L ks) ∧ num4b (marksC L ks) = ks.length ∧ bitsb (marksC L ks) = bitsN ((allOf L ks).map (isAt L)) := by
  have h5 := F.few
  have hb : bitsN ((allOf L ks).map (isAt L)) < 2 ^ ks.length := by
    have h := bits_lt ((allOf L ks).map (isAt L))
    rwa [List.length_map, F.len] at h
  unfold marksC
  exact ⟨B.isCode_code _ _ (by omega) hb, B.num4b_code _ _ (by omega), B.bitsb_code _ _ (by omega) hb⟩
theorem ids_code {L : List Str} {ks : List (List Span)} (F : Full L ks) : decodable (idsC L ks) = true ∧ decodeL (idsC L ks) = idsOf L (allOf L ks) := by
  have h1 := idsOf_len F
  have h5 := F.few
  have h64 := widthL_le_64 _ (idsOf_lt F.good (fun x hx => F.bfs.ok F.good x hx))
  unfold idsC
  exact ⟨decodable_code _ (by omega) h64, decodeL_code _ (by omega) h64⟩
/-- What the four parts say, if they are a code's. -/
theorem code_of {L : List Str} {ks : List (List Span)} (F : Full L ks) {l0 l1 l2 l3 : List Nat} (h0 : l0 = shapeC ks) (h1 : l1 = labsC L ks) (h2 : l2 = marksC L ks) (h3 : l3 = idsC L ks) :
    CodeOf (num4b l0) (bitsb l0) (num4b l2) (bitsb l2) l1 (decodeL l3) L ks := by
  subst h0 h1 h2 h3
  exact ⟨F, (shape_code F).2.1, (shape_code F).2.2, (marks_code F).2.1, (marks_code F).2.2, rfl, (ids_code F).2⟩

/-- Build of strings that are no set that fits. -/
theorem lbuild_no (w : World) (A : Option Addr) (n c : Nat) (ss : List ByteArray) (L : List Str) (hL : ss.map bytesOf = L) (hno : ¬ (Good L ∧ wt L (root L) ≤ 524287)) (hm : n ≤ maxLen) (hz : ∀ s ∈ ss, s.size ≤ maxLen) (hs : Sl w w.heap.size A n (ss.map Value.string)) :
    ∃ x : Int, (x = 1 ∨ x = 2) ∧ Calls Try.prog 23 #[.slice A n c] w fun e w' => e = .returned (.tuple #[.pointer none, .int .i64 x]) ∧ Below w.heap.size w w' := by
  by_cases hg : Good L
  · refine ⟨2, .inr rfl, (lbuild_good w A n c ss L hL hg hm hz hs).mono ?_⟩
    rintro e w' ⟨h1, ⟨h2, _⟩ | ⟨_, h2⟩⟩
    · exact (hno ⟨hg, h2⟩).elim
    · exact ⟨h2, h1⟩
  · by_cases hb : 20000 < n
    · refine ⟨2, .inr rfl, (lbuild_bad w A n c ss L hL (.inr hg) hm hz hs).mono ?_⟩
      rintro e w' ⟨h1, ⟨_, h2⟩ | ⟨h2, _⟩⟩
      · exact ⟨h2, h1⟩
      · omega
    · refine ⟨1, .inl rfl, (lbuild_bad w A n c ss L hL (.inr hg) hm hz hs).mono ?_⟩
      rintro e w' ⟨h1, ⟨h2, _⟩ | ⟨_, h2⟩⟩
      · omega
      · exact ⟨h2, h1⟩
theorem Full.wt_ok {L : List Str} {ks : List (List Span)} (F : Full L ks) : wt L (LD.root L) ≤ 524287 := by
  rw [← F.bfs.full F.good F.len.symm, F.len]
  exact F.few
/-- What Decode says. -/
def DecPost (w : World) (bl : List Nat) (e : Ending) (w' : World) : Prop :=
  Below w.heap.size w w' ∧ ((∃ L ks tb, codeK L ks = bl ∧ e = .returned (.tuple #[.pointer (some ⟨tb, 0, none⟩), .int .i64 0]) ∧ TR w' w.heap.size w'.heap.size tb L ks ∧ ∀ L' ks', Full L' ks' → codeK L' ks' = bl → L' = L) ∨
    (e = .returned (.tuple #[.pointer none, .int .i64 5]) ∧ ∀ L ks, Full L ks → codeK L ks ≠ bl))
theorem codeK_lt {L : List Str} {ks : List (List Span)} (F : Full L ks) : ∀ v ∈ codeK L ks, v < 256 := by
  have hp : ∀ b : List Nat, (∀ v ∈ b, v < 256) → ∀ v ∈ partL b, v < 256 := by
    intro b hb v hv
    unfold partL at hv
    rcases List.mem_append.1 hv with h | h
    · exact bytesN_lt _ _ v h
    · exact hb v h
  intro v hv
  unfold codeK at hv
  simp only [List.mem_append] at hv
  rcases hv with ((h | h) | h) | h
  · exact hp _ (B.bcode_lt _ _) v h
  · refine hp _ (fun z hz => ?_) v h
    unfold labsC at hz
    obtain ⟨x, _, rfl⟩ := List.mem_map.1 hz
    exact byte_lt F.good _ _
  · exact hp _ (B.bcode_lt _ _) v h
  · exact hp _ (code_lt _) v h

/-- The four parts, with their bytes. -/
def Four (w : World) (bl : List Nat) (A0 : Option Addr) (n0 c0 : Nat) (A1 : Option Addr) (n1 c1 : Nat) (A2 : Option Addr) (n2 c2 : Nat) (A3 : Option Addr) (n3 c3 : Nat) (l0 l1 l2 l3 : List Nat) : Prop :=
  PieceOk w ⟨A0, n0, c0, l0⟩ ∧ PieceOk w ⟨A1, n1, c1, l1⟩ ∧ PieceOk w ⟨A2, n2, c2, l2⟩ ∧ PieceOk w ⟨A3, n3, c3, l3⟩ ∧
    ∀ L ks, Full L ks → codeK L ks = bl → l0 = shapeC ks ∧ l1 = labsC L ks ∧ l2 = marksC L ks ∧ l3 = idsC L ks
theorem four_of {w : World} {bl : List Nat} {A0 : Option Addr} {n0 c0 : Nat} {A1 : Option Addr} {n1 c1 : Nat} {A2 : Option Addr} {n2 c2 : Nat} {A3 : Option Addr} {n3 c3 : Nat}
    (hok : ∃ qs : List Piece, qs.length = 4 ∧ [Value.slice A0 n0 c0, .slice A1 n1 c1, .slice A2 n2 c2, .slice A3 n3 c3] = qs.map Piece.val ∧ ∀ q ∈ qs, PieceOk w q)
    (hall : ∀ ys, Short ys → ys.length = 4 → cat ys = bl → ∃ qs : List Piece, [Value.slice A0 n0 c0, .slice A1 n1 c1, .slice A2 n2 c2, .slice A3 n3 c3] = qs.map Piece.val ∧ qs.map Piece.l = ys ∧ ∀ q ∈ qs, PieceOk w q) :
    ∃ l0 l1 l2 l3, Four w bl A0 n0 c0 A1 n1 c1 A2 n2 c2 A3 n3 c3 l0 l1 l2 l3 := by
  have key : ∀ qs : List Piece, [Value.slice A0 n0 c0, .slice A1 n1 c1, .slice A2 n2 c2, .slice A3 n3 c3] = qs.map Piece.val → (∀ q ∈ qs, PieceOk w q) → ∃ l0 l1 l2 l3, qs.map Piece.l = [l0, l1, l2, l3] ∧ PieceOk w ⟨A0, n0, c0, l0⟩ ∧ PieceOk w ⟨A1, n1, c1, l1⟩ ∧ PieceOk w ⟨A2, n2, c2, l2⟩ ∧ PieceOk w ⟨A3, n3, c3, l3⟩ := by
    intro qs h1 h2
    match qs, h1, h2 with
    | [⟨B0, m0, d0, l0⟩, ⟨B1, m1, d1, l1⟩, ⟨B2, m2, d2, l2⟩, ⟨B3, m3, d3, l3⟩], h1, h2 =>
      simp only [List.map_cons, List.map_nil, Piece.val, List.cons.injEq, Value.slice.injEq, and_true] at h1
      obtain ⟨⟨rfl, rfl, rfl⟩, ⟨rfl, rfl, rfl⟩, ⟨rfl, rfl, rfl⟩, ⟨rfl, rfl, rfl⟩⟩ := h1
      exact ⟨l0, l1, l2, l3, rfl, h2 _ (by simp), h2 _ (by simp), h2 _ (by simp), h2 _ (by simp)⟩
    | [], h1, _ => simp at h1
    | [_], h1, _ => simp at h1
    | [_, _], h1, _ => simp at h1
    | [_, _, _], h1, _ => simp at h1
    | _ :: _ :: _ :: _ :: _ :: _, h1, _ => simp at h1
  by_cases hex : ∃ ys, Short ys ∧ ys.length = 4 ∧ cat ys = bl
  · obtain ⟨ys, hs, h4, hc⟩ := hex
    obtain ⟨qs, h1, h2, h3⟩ := hall ys hs h4 hc
    obtain ⟨l0, l1, l2, l3, e, p0, p1, p2, p3⟩ := key qs h1 h3
    refine ⟨l0, l1, l2, l3, p0, p1, p2, p3, fun L ks F hk => ?_⟩
    have := cat_inj (ys := ys) (zs := [shapeC ks, labsC L ks, marksC L ks, idsC L ks]) h4 hs (parts_short F) (by rw [hc, ← codeK_cat, hk])
    rw [h2] at e
    rw [e] at this
    simp only [List.cons.injEq, and_true] at this
    exact this
  · obtain ⟨qs, _, h1, h3⟩ := hok
    obtain ⟨l0, l1, l2, l3, e, p0, p1, p2, p3⟩ := key qs h1 h3
    exact ⟨l0, l1, l2, l3, p0, p1, p2, p3, fun L ks F hk => (hex ⟨_, parts_short F, rfl, by rw [← codeK_cat]; exact hk⟩).elim⟩
/-- What a decoder of bits has returned. -/
def BitRes (W w' : World) (l : List Nat) (v : Value) (er : Int) : Prop :=
  (er = 0 ∧ isCode l ∧ ∃ b, v = .pointer (some ⟨b, 0, none⟩) ∧ Bv w' W.heap.size w'.heap.size b (num4b l) (bitsb l)) ∨ (er = 5 ∧ ¬ isCode l)
theorem bitres_of {W w' : World} {l : List Nat} {e : Ending} (h : BDecPost W l e w') : ∃ v er, e = .returned (.tuple #[v, .int .i64 er]) ∧ BitRes W w' l v er ∧ Below W.heap.size W w' := by
  obtain ⟨h1, ⟨h2, b, rfl, h3⟩ | ⟨h2, rfl⟩⟩ := h
  · exact ⟨_, _, rfl, .inl ⟨rfl, h2, b, rfl, h3⟩, h1⟩
  · exact ⟨_, _, rfl, .inr ⟨rfl, h2⟩, h1⟩
def NumRes (W w' : World) (l : List Nat) (v : Value) (er : Int) : Prop :=
  (er = 0 ∧ decodable l = true ∧ ∃ p g, v = .pointer (some ⟨p, 0, none⟩) ∧ IsP w' W.heap.size p g (decodeL l)) ∨ (er = 5 ∧ decodable l = false)
theorem numres_of {W w' : World} {l : List Nat} {e : Ending} (h : DecAny W l e w') : ∃ v er, e = .returned (.tuple #[v, .int .i64 er]) ∧ NumRes W w' l v er ∧ Below W.heap.size W w' := by
  obtain ⟨h1, ⟨h2, p, g, rfl, h3⟩ | ⟨h2, rfl⟩⟩ := h
  · exact ⟨_, _, rfl, .inl ⟨rfl, h2, p, g, rfl, h3⟩, h1⟩
  · exact ⟨_, _, rfl, .inr ⟨rfl, h2⟩, h1⟩
theorem TrieAt.widen {w : World} {S S' E E' tb : Nat} {L : List Str} {ks : List (List Span)} (h : TrieAt w S E tb L ks) (hS : S' ≤ S) (hE : E ≤ E') : TrieAt w S' E' tb L ks := by
  obtain ⟨h1, h2, h3, h4, h5, b1, b2, A3, c3, b4, g4, A5, c5, hr, hb1, hb2, hs3, hp, k1, k2, k3, k4, hs5⟩ := h
  exact ⟨h1, h2, h3, by omega, by omega, b1, b2, A3, c3, b4, g4, A5, c5, hr, hb1.mono hS hE, hb2.mono hS hE, hs3.mono hS hE, hp, by omega, by omega, by omega, by omega, hs5.mono hS hE⟩
theorem TR.widen {w : World} {S S' E tb : Nat} {L : List Str} {ks : List (List Span)} (h : TR w S E tb L ks) (hS : S' ≤ S) (h1 : S' ≤ w.heap.size) (h2 : E ≤ w.heap.size) : TR w S' w.heap.size tb L ks :=
  ⟨h.good, Nat.le_refl _, h.at'.widen hS h2⟩
set_option maxHeartbeats 16000000 in
theorem ldec_any (w : World) (A : Option Addr) (n c : Nat) (bl : List Nat) (hbl : ∀ v ∈ bl, v < 256) (hs : Sl w w.heap.size A n (bl.map B.u8v)) (hnc : n ≤ c) (hcm : c ≤ maxLen) :
    Calls Try.prog 18 #[.slice A n c] w (DecPost w bl) := by
  have HPA := Lib.hid (lparts_any w A n c bl hbl hs hnc hcm)
  have HS := Lib.hid hs; have HBL := Lib.hid hbl
  unfold maxLen at hcm
  clear hs hbl
  go_enter Try.func18, Try.ntmps18
  go_wp2_with fail
  refine HPA.out.mono ?_
  rintro e w1 ⟨hB1, vs, ok, hv4, hvs, rfl, hok, hall⟩
  have HB1 := Lib.hid hB1
  match vs, hv4, hvs, hok, hall with
  | [x0, x1, x2, x3], _, hvs, hok, hall =>
    obtain ⟨A0, n0, c0, rfl⟩ := hvs x0 (by simp)
    obtain ⟨A1, n1, c1, rfl⟩ := hvs x1 (by simp)
    obtain ⟨A2, n2, c2, rfl⟩ := hvs x2 (by simp)
    obtain ⟨A3, n3, c3, rfl⟩ := hvs x3 (by simp)
    clear hvs hB1
    cases ok with
    | false =>
      have HNO : Hid (∀ L ks, Full L ks → codeK L ks ≠ bl) := Lib.hid (fun L ks F e => by
        have h := (hall _ (parts_short F) rfl (by rw [← codeK_cat]; exact e)).1
        cases h)
      clear hok hall
      go_wp2
      go_ret2
      exact ⟨HB1.out.alloc HB1.out.size _, .inr ⟨rfl, HNO.out⟩⟩
    | true =>
      obtain ⟨l0, l1, l2, l3, hfour⟩ := four_of (hok rfl) (fun ys h1 h2 h3 => (hall ys h1 h2 h3).2)
      have HF := Lib.hid hfour
      have HR2 := Lib.hid (Row.new w1 67 #[.slice A0 n0 c0, .slice A1 n1 c1, .slice A2 n2 c2, .slice A3 n3 c3])
      have HB2 := Lib.hid (HB1.out.alloc HB1.out.size (.cells #[.slice A0 n0 c0, .slice A1 n1 c1, .slice A2 n2 c2, .slice A3 n3 c3] 67))
      clear hok hall hfour
      go_upto_region 4 with fail
      obtain ⟨W2, hW2⟩ : ∃ W2, w1.alloc (.cells #[.slice A0 n0 c0, .slice A1 n1 c1, .slice A2 n2 c2, .slice A3 n3 c3] 67) = W2 := ⟨_, rfl⟩
      rw [hW2] at HR2 HB2 ⊢
      obtain ⟨P0, hP0⟩ : ∃ P0, w1.heap.size = P0 := ⟨_, rfl⟩
      rw [hP0] at HR2 ⊢
      clear hW2 hP0 HB1
      have hPS := HR2.out.lt
      have hz2 := HB2.out.size
      have k0 : W2.cell? ⟨P0, 0, none⟩ = some (.slice A0 n0 c0) := HR2.out.cell 0
      have HD0 := Lib.hid (bdecode_any W2 A0 n0 c0 l0 HF.out.1.lt ((HF.out.1.sl.below HB2.out).more HB2.out.size) HF.out.1.nc HF.out.1.cm)
      go_wp2_with fail
      refine HD0.out.mono ?_
      intro e w3 hp
      obtain ⟨v0, er0, rfl, hr0, hB3⟩ := bitres_of hp
      have H0 := Lib.hid hr0
      have HB3 := Lib.hid (HB2.out.trans (hB3.mono HB2.out.size))
      have k2 : w3.cell? ⟨P0, 2, none⟩ = some (.slice A2 n2 c2) := (hB3.cell (p := ⟨P0, 2, none⟩) hPS).trans (HR2.out.cell 2)
      have HR3 := Lib.hid (HR2.out.below hB3 hPS)
      have hz3 : W2.heap.size ≤ w3.heap.size := hB3.size
      have HD2 := Lib.hid (bdecode_any w3 A2 n2 c2 l2 HF.out.2.2.1.lt ((HF.out.2.2.1.sl.below HB3.out).more HB3.out.size) HF.out.2.2.1.nc HF.out.2.2.1.cm)
      clear hp hr0 hB3 k0
      go_wp2_with fail
      refine HD2.out.mono ?_
      intro e w4 hp
      obtain ⟨v2, er2, rfl, hr2, hB4⟩ := bitres_of hp
      have H2 := Lib.hid hr2
      have HB34 := Lib.hid hB4
      have HB4 := Lib.hid (HB3.out.trans (hB4.mono HB3.out.size))
      have k3 : w4.cell? ⟨P0, 3, none⟩ = some (.slice A3 n3 c3) := (hB4.cell (p := ⟨P0, 3, none⟩) HR3.out.lt).trans (HR3.out.cell 3)
      have HR4 := Lib.hid (HR3.out.below hB4 HR3.out.lt)
      have hz4 : w3.heap.size ≤ w4.heap.size := hB4.size
      have HD3 := Lib.hid (pdec_any w4 A3 n3 c3 l3 HF.out.2.2.2.1.nc HF.out.2.2.2.1.cm HF.out.2.2.2.1.lt ((HF.out.2.2.2.1.sl.below HB4.out).more HB4.out.size))
      clear hp hr2 hB4 k2
      go_wp2_with fail
      refine HD3.out.mono ?_
      intro e w5 hp
      obtain ⟨v3, er3, rfl, hr3, hB5⟩ := numres_of hp
      have H3 := Lib.hid hr3
      have HB45 := Lib.hid hB5
      have HB5 := Lib.hid (HB4.out.trans (hB5.mono HB4.out.size))
      have k1 : w5.cell? ⟨P0, 1, none⟩ = some (.slice A1 n1 c1) := (hB5.cell (p := ⟨P0, 1, none⟩) HR4.out.lt).trans (HR4.out.cell 1)
      have hz5 : w4.heap.size ≤ w5.heap.size := hB5.size
      clear hp hr3 hB5 k3
      rcases H0.out with ⟨rfl, hc0, b0, rfl, hbv0⟩ | ⟨rfl, hc0⟩
      case inr =>
        have HNO : Hid (∀ L ks, Full L ks → codeK L ks ≠ bl) := Lib.hid (fun L ks F e => hc0 (by rw [(HF.out.2.2.2.2 L ks F e).1]; exact (shape_code F).1))
        clear hc0
        go_wp2
        go_ret2
        exact ⟨HB5.out, .inr ⟨rfl, HNO.out⟩⟩
      rcases H2.out with ⟨rfl, hc2, b2, rfl, hbv2⟩ | ⟨rfl, hc2⟩
      case inr =>
        have HNO : Hid (∀ L ks, Full L ks → codeK L ks ≠ bl) := Lib.hid (fun L ks F e => hc2 (by rw [(HF.out.2.2.2.2 L ks F e).2.2.1]; exact (marks_code F).1))
        clear hc2 hc0 hbv0
        go_wp2
        go_ret2
        exact ⟨HB5.out, .inr ⟨rfl, HNO.out⟩⟩
      rcases H3.out with ⟨rfl, hc3, p3, g3, rfl, hip3⟩ | ⟨rfl, hc3⟩
      case inr =>
        have HNO : Hid (∀ L ks, Full L ks → codeK L ks ≠ bl) := Lib.hid (fun L ks F e => by
          rw [(HF.out.2.2.2.2 L ks F e).2.2.2, (ids_code F).1] at hc3
          cases hc3)
        clear hc2 hc0 hbv0 hbv2 hc3
        go_wp2
        go_ret2
        exact ⟨HB5.out, .inr ⟨rfl, HNO.out⟩⟩
      have hn0 : num4b l0 ≤ 1048576 := hc0.1
      have hn2 : num4b l2 ≤ 1048576 := hc2.1
      have hnk : (decodeL l3).length ≤ 1048576 := by
        unfold decodable at hc3
        simp only [Bool.and_eq_true, decide_eq_true_eq] at hc3
        unfold decodeL
        rw [unpack_length]
        exact hc3.1.1.1.2
      have h64 : ∀ v ∈ decodeL l3, v < 2 ^ 64 := by
        unfold decodable at hc3
        simp only [Bool.and_eq_true, decide_eq_true_eq] at hc3
        exact unpack_lt _ _ _ hc3.1.1.2
      have HCO : Hid (∀ L ks, Full L ks → codeK L ks = bl → CodeOf (num4b l0) (bitsb l0) (num4b l2) (bitsb l2) l1 (decodeL l3) L ks) := Lib.hid (fun L ks F e => by
        obtain ⟨e0, e1, e2, e3⟩ := HF.out.2.2.2.2 L ks F e
        exact code_of F e0 e1 e2 e3)
      have hS5 : Bv w5 W2.heap.size w3.heap.size b0 (num4b l0) (bitsb l0) := B.Bv.below (B.Bv.below hbv0 HB34.out (Nat.le_refl _)) HB45.out hz4
      have hI5 : Bv w5 w3.heap.size w4.heap.size b2 (num4b l2) (bitsb l2) := B.Bv.below hbv2 HB45.out (Nat.le_refl _)
      have hl1 : l1.length = n1 := by have := HF.out.2.1.sl.1; simpa using this
      have hsl1 : Sl w5 w5.heap.size A1 n1 (l1.map B.u8v) := (HF.out.2.1.sl.below HB5.out).more HB5.out.size
      have hn1m : n1 ≤ maxLen := Nat.le_trans HF.out.2.1.nc HF.out.2.1.cm
      by_cases hck : Checks (num4b l0) (bitsb l0) (num4b l2) (bitsb l2) n1 (decodeL l3).length
      case neg =>
        have HG := Lib.hid (lgrow_bad w5 _ _ _ _ b0 b2 p3 g3 (num4b l0) (bitsb l0) (num4b l2) (bitsb l2) n1 c1 (decodeL l3).length _ _ A1 hS5 hI5 hip3.1 hn0 hn2 hnk hn1m hck)
        have HNO : Hid (∀ L ks, Full L ks → codeK L ks ≠ bl) := Lib.hid (fun L ks F e => hck (by
          have h := (HCO.out L ks F e).checks
          rw [hl1] at h
          exact h))
        clear hck hc0 hc2 hc3 hbv0 hbv2 hip3 hS5 hI5 hn0 hn2 hnk h64 hl1 hsl1
        go_wp2_with fail
        refine HG.out.mono ?_
        rintro e w6 ⟨rfl, q6, rfl⟩
        go_wp2
        go_ret2
        exact ⟨bel_drewN HB5.out _, .inr ⟨rfl, HNO.out⟩⟩
      have HG := Lib.hid (lgrow_good w5 _ _ _ _ b0 b2 p3 g3 (num4b l0) (bitsb l0) (num4b l2) (bitsb l2) n1 c1 l1 (decodeL l3) A1 hS5 hI5 (by omega) (by omega) hip3.1 h64 hsl1 HF.out.2.1.lt hck)
      clear hck hc0 hc2 hc3 hbv0 hbv2 hip3 hS5 hI5 hn0 hn2 hnk h64 hl1 hsl1
      go_wp2_with fail
      refine HG.out.mono ?_
      rintro e w6 ⟨hB6, A6, m6, c6, ok6, rfl, hok6, hcode6⟩
      have HB6 := Lib.hid (HB5.out.trans (hB6.mono HB5.out.size))
      clear hB6
      cases ok6 with
      | false =>
        have HNO : Hid (∀ L ks, Full L ks → codeK L ks ≠ bl) := Lib.hid (fun L ks F e => by
          have h := hcode6 L ks (HCO.out L ks F e)
          cases h)
        clear hok6 hcode6
        go_wp2
        go_ret2
        exact ⟨HB6.out, .inr ⟨rfl, HNO.out⟩⟩
      | true =>
        obtain ⟨ss, hm6, hsl6, hsz6, hL6⟩ := hok6 rfl
        have HL6 : Hid (∀ L ks, Full L ks → codeK L ks = bl → ss.map bytesOf = L) := Lib.hid (fun L ks F e => hL6 L ks (HCO.out L ks F e))
        have hszm : ∀ s ∈ ss, s.size ≤ maxLen := fun s hs => by have := hsz6 s hs; unfold maxLen; omega
        by_cases hgo : Good (ss.map bytesOf) ∧ wt (ss.map bytesOf) (LD.root (ss.map bytesOf)) ≤ 524287
        case neg =>
          obtain ⟨x, hx, hcx⟩ := lbuild_no w6 A6 m6 c6 ss _ rfl hgo (by unfold maxLen; omega) hszm hsl6
          have HBD := Lib.hid hcx
          have HNO : Hid (∀ L ks, Full L ks → codeK L ks ≠ bl) := Lib.hid (fun L ks F e => hgo (by
            rw [HL6.out L ks F e]
            exact ⟨F.good, F.wt_ok⟩))
          have g1 : (x == 0) = false := by rw [beq_eq_false_iff_ne]; omega
          have g2 : (x != 0) = true := by rw [bne_iff_ne]; omega
          clear hok6 hcode6 hsl6 hsz6 hL6 hszm hgo hx hcx
          go_wp2_with fail
          refine HBD.out.mono ?_
          rintro e w7 ⟨rfl, hB7⟩
          have HB7 := Lib.hid (HB6.out.trans (hB7.mono HB6.out.size))
          clear hB7
          go_wp2
          go_quiet (fail)
          go_wp2
          go_ret2
          exact ⟨bel_drewN HB7.out _, .inr ⟨rfl, HNO.out⟩⟩
        have HBD := Lib.hid (lbuild_made w6 A6 m6 c6 ss _ rfl hgo.1 hgo.2 (by unfold maxLen; omega) hszm hsl6)
        clear hok6 hcode6 hsl6 hsz6 hL6 hszm hgo
        go_wp2_with fail
        refine HBD.out.mono ?_
        rintro e w7 ⟨tb, ks7, rfl, hT7, hB7⟩
        have HB7 := Lib.hid (HB6.out.trans (hB7.mono HB6.out.size))
        have HT7 := Lib.hid hT7
        have hz67 : w6.heap.size ≤ w7.heap.size := hB7.size
        clear hT7 hB7
        obtain ⟨L7, hL7⟩ : ∃ L7, ss.map bytesOf = L7 := ⟨_, rfl⟩
        rw [hL7] at HT7 HL6
        clear hL7
        have hcb : (convert 26 9 (.slice A n c)).run Try.prog w7.drew = .ok (.string (bs bl)) w7.drew := conv_sl (P := Try.prog) 26 5 9 Try.underlying26 Try.underlying5 Try.underlying9 ((HS.out.below HB7.out).drew) c
        have hen := lenc_any w7.drew _ _ tb L7 ks7 (HT7.out.next ((Below.refl _ _).drew))
        have hxl := codeK_lt HT7.out.full
        obtain ⟨X, hX⟩ : ∃ X, codeK L7 ks7 = X := ⟨_, rfl⟩
        rw [hX] at hen hxl
        have HEN := Lib.hid hen
        have HX := Lib.hid hX
        have hbq := bs_beq X bl hxl HBL.out
        have hzw : w.heap.size ≤ w6.heap.size := HB6.out.size
        clear hen hX hxl
        by_cases heq : X = bl
        case neg =>
          have HNO : Hid (∀ L ks, Full L ks → codeK L ks ≠ bl) := Lib.hid (fun L ks F e => heq (by
            have e1 := HL6.out L ks F e
            subst e1
            have e2 := F.one HT7.out.full
            subst e2
            rw [← HX.out]; exact e))
          rw [decide_eq_false heq] at hbq
          clear heq
          go_wp2_with fail
          refine wp_region_held_drew (S := fun w' => (convert 26 9 (.slice A n c)).run Try.prog w' = .ok (.string (bs bl)) w') (by kernel_rfl) hcb (fun hHeld => ?_)
          refine wpAnyH_take (i := 0) (oi := _) (v := ?_) rfl (by kernel_rfl) (by kernel_rfl) (by kernel_rfl) (fun _ _ _ h => h) (Or.inl ⟨by rfl, ?_⟩) hHeld ?_
          rotate_left
          · (intro w hSw; (try dsimp only at hSw); simp only [List.getElem_toArray, List.getElem_cons_zero]; go_simp; try with_reducible rfl)
          simp only [List.getElem_toArray, List.getElem_cons_zero, Act.put, List.setIfInBounds_toArray, List.set_cons_zero, List.set_cons_succ]
          refine wpAnyH_take (i := 1) (oi := _) (v := ?_) rfl (by kernel_rfl) (by kernel_rfl) (by kernel_rfl) (fun _ _ _ h => h) (Or.inl ⟨by rfl, ?_⟩) hHeld ?_
          rotate_left
          · (intro w hSw; (try dsimp only at hSw); simp only [List.getElem_toArray, List.getElem_cons_zero, List.getElem_cons_succ]; go_simp; try with_reducible rfl)
          simp only [List.getElem_toArray, List.getElem_cons_zero, List.getElem_cons_succ, Act.put, List.setIfInBounds_toArray, List.set_cons_zero, List.set_cons_succ]
          refine wpAnyH_take (i := 2) (oi := _) (v := ?_) rfl (by kernel_rfl) (by kernel_rfl) (by kernel_rfl) (fun _ _ _ h => h) (Or.inl ⟨by rfl, ?_⟩) hHeld ?_
          rotate_left
          · (intro w hSw; (try dsimp only at hSw); simp only [List.getElem_toArray, List.getElem_cons_zero, List.getElem_cons_succ]; go_simp; try with_reducible rfl)
          simp only [List.getElem_toArray, List.getElem_cons_zero, List.getElem_cons_succ, Act.put, List.setIfInBounds_toArray, List.set_cons_zero, List.set_cons_succ]
          refine wpAnyH_take (i := 3) (oi := _) (v := ?_) rfl (by kernel_rfl) (by kernel_rfl) (by kernel_rfl) (fun _ _ _ h => h) (Or.inl ⟨by rfl, ?_⟩) hHeld ?_
          rotate_left
          · (intro w hSw; (try dsimp only at hSw); simp only [List.getElem_toArray, List.getElem_cons_zero, List.getElem_cons_succ]; go_simp; try with_reducible rfl)
          simp only [List.getElem_toArray, List.getElem_cons_zero, List.getElem_cons_succ, Act.put, List.setIfInBounds_toArray, List.set_cons_zero, List.set_cons_succ]
          refine wpAnyH_take (i := 6) (oi := _) (v := ?_) rfl (by kernel_rfl) (by kernel_rfl) (by kernel_rfl) (fun _ _ _ h => h) (Or.inl ⟨by rfl, ?_⟩) hHeld ?_
          rotate_left
          · (intro w hSw; (try dsimp only at hSw); simp only [List.getElem_toArray, List.getElem_cons_zero, List.getElem_cons_succ]; go_simp; try with_reducible rfl)
          simp only [List.getElem_toArray, List.getElem_cons_zero, List.getElem_cons_succ, Act.put, List.setIfInBounds_toArray, List.set_cons_zero, List.set_cons_succ]
          refine wpAnyH_take (i := 7) (oi := _) (v := ?_) rfl (by kernel_rfl) (by kernel_rfl) (by kernel_rfl) (fun _ _ _ h => h) (Or.inl ⟨by rfl, ?_⟩) hHeld ?_
          rotate_left
          · (intro w hSw; (try dsimp only at hSw); simp only [List.getElem_toArray, List.getElem_cons_zero, List.getElem_cons_succ]; go_simp; try with_reducible rfl)
          simp only [List.getElem_toArray, List.getElem_cons_zero, List.getElem_cons_succ, Act.put, List.setIfInBounds_toArray, List.set_cons_zero, List.set_cons_succ]
          refine wpAnyH_ready (rs := [4]) (by kernel_rfl) (by simp) ?_
          refine AllReadyH.cons (o := _) rfl (fun K hK => ?_) AllReadyH.nil
          go_simp
          refine HEN.out.mono ?_
          rintro e w8 ⟨v8, rfl, hown8, hB8⟩
          obtain ⟨A8, c8, rfl, -, -⟩ := own_shape hown8
          have hcv8 := B.conv_put hown8
          have HB8 := Lib.hid (HB7.out.drew.trans (hB8.mono HB7.out.size))
          have HT8 := Lib.hid (((HT7.out.next ((Below.refl _ _).drew)).next hB8).widen hzw HB8.out.size hB8.size)
          have hcb8 : (convert 26 9 (.slice A n c)).run Try.prog w8 = .ok (.string (bs bl)) w8 := conv_sl (P := Try.prog) 26 5 9 Try.underlying26 Try.underlying5 Try.underlying9 (HS.out.below HB8.out) c
          clear hown8 hB8
          go_wp2_with fail
          refine hK.out _ _ (hcb8) (fun hHeld => ?_)
          clear hK K
          try simp only [Act.put, List.setIfInBounds_toArray, List.set_cons_zero, List.set_cons_succ]
          refine wpAnyH_ready (rs := [5]) (by kernel_rfl) (by simp) ?_
          refine AllReadyH.cons (o := _) rfl (fun K hK => ?_) AllReadyH.nil
          go_simp
          refine hK.out _ _ (hcb8) (fun hHeld => ?_)
          clear hK K
          try simp only [Act.put, List.setIfInBounds_toArray, List.set_cons_zero, List.set_cons_succ]
          refine wpAnyH_take (i := 8) (oi := _) (v := ?_) rfl (by kernel_rfl) (by kernel_rfl) (by kernel_rfl) (fun _ _ _ h => h) (Or.inl ⟨by rfl, ?_⟩) hHeld ?_
          rotate_left
          · (intro w hSw; (try dsimp only at hSw); simp only [List.getElem_toArray, List.getElem_cons_zero, List.getElem_cons_succ]; go_simp; try with_reducible rfl)
          simp only [List.getElem_toArray, List.getElem_cons_zero, List.getElem_cons_succ, Act.put, List.setIfInBounds_toArray, List.set_cons_zero, List.set_cons_succ]
          refine wpAnyH_take (i := 9) (oi := _) (v := ?_) rfl (by kernel_rfl) (by kernel_rfl) (by kernel_rfl) (fun _ _ _ h => h) (Or.inl ⟨by rfl, ?_⟩) hHeld ?_
          rotate_left
          · (intro w hSw; (try dsimp only at hSw); simp only [List.getElem_toArray, List.getElem_cons_zero, List.getElem_cons_succ]; go_simp; try with_reducible rfl)
          simp only [List.getElem_toArray, List.getElem_cons_zero, List.getElem_cons_succ, Act.put, List.setIfInBounds_toArray, List.set_cons_zero, List.set_cons_succ]
          refine wpAnyH_done (by kernel_rfl) ?_ _
          go_wp2
          go_ret2
          exact ⟨HB8.out, .inr ⟨rfl, HNO.out⟩⟩
        rw [decide_eq_true heq] at hbq
        have HEQ := Lib.hid heq
        clear heq
        go_wp2_with fail
        refine wp_region_held_drew (S := fun w' => (convert 26 9 (.slice A n c)).run Try.prog w' = .ok (.string (bs bl)) w') (by kernel_rfl) hcb (fun hHeld => ?_)
        refine wpAnyH_take (i := 0) (oi := _) (v := ?_) rfl (by kernel_rfl) (by kernel_rfl) (by kernel_rfl) (fun _ _ _ h => h) (Or.inl ⟨by rfl, ?_⟩) hHeld ?_
        rotate_left
        · (intro w hSw; (try dsimp only at hSw); simp only [List.getElem_toArray, List.getElem_cons_zero]; go_simp; try with_reducible rfl)
        simp only [List.getElem_toArray, List.getElem_cons_zero, Act.put, List.setIfInBounds_toArray, List.set_cons_zero, List.set_cons_succ]
        refine wpAnyH_take (i := 1) (oi := _) (v := ?_) rfl (by kernel_rfl) (by kernel_rfl) (by kernel_rfl) (fun _ _ _ h => h) (Or.inl ⟨by rfl, ?_⟩) hHeld ?_
        rotate_left
        · (intro w hSw; (try dsimp only at hSw); simp only [List.getElem_toArray, List.getElem_cons_zero, List.getElem_cons_succ]; go_simp; try with_reducible rfl)
        simp only [List.getElem_toArray, List.getElem_cons_zero, List.getElem_cons_succ, Act.put, List.setIfInBounds_toArray, List.set_cons_zero, List.set_cons_succ]
        refine wpAnyH_take (i := 2) (oi := _) (v := ?_) rfl (by kernel_rfl) (by kernel_rfl) (by kernel_rfl) (fun _ _ _ h => h) (Or.inl ⟨by rfl, ?_⟩) hHeld ?_
        rotate_left
        · (intro w hSw; (try dsimp only at hSw); simp only [List.getElem_toArray, List.getElem_cons_zero, List.getElem_cons_succ]; go_simp; try with_reducible rfl)
        simp only [List.getElem_toArray, List.getElem_cons_zero, List.getElem_cons_succ, Act.put, List.setIfInBounds_toArray, List.set_cons_zero, List.set_cons_succ]
        refine wpAnyH_take (i := 3) (oi := _) (v := ?_) rfl (by kernel_rfl) (by kernel_rfl) (by kernel_rfl) (fun _ _ _ h => h) (Or.inl ⟨by rfl, ?_⟩) hHeld ?_
        rotate_left
        · (intro w hSw; (try dsimp only at hSw); simp only [List.getElem_toArray, List.getElem_cons_zero, List.getElem_cons_succ]; go_simp; try with_reducible rfl)
        simp only [List.getElem_toArray, List.getElem_cons_zero, List.getElem_cons_succ, Act.put, List.setIfInBounds_toArray, List.set_cons_zero, List.set_cons_succ]
        refine wpAnyH_take (i := 6) (oi := _) (v := ?_) rfl (by kernel_rfl) (by kernel_rfl) (by kernel_rfl) (fun _ _ _ h => h) (Or.inl ⟨by rfl, ?_⟩) hHeld ?_
        rotate_left
        · (intro w hSw; (try dsimp only at hSw); simp only [List.getElem_toArray, List.getElem_cons_zero, List.getElem_cons_succ]; go_simp; try with_reducible rfl)
        simp only [List.getElem_toArray, List.getElem_cons_zero, List.getElem_cons_succ, Act.put, List.setIfInBounds_toArray, List.set_cons_zero, List.set_cons_succ]
        refine wpAnyH_take (i := 7) (oi := _) (v := ?_) rfl (by kernel_rfl) (by kernel_rfl) (by kernel_rfl) (fun _ _ _ h => h) (Or.inl ⟨by rfl, ?_⟩) hHeld ?_
        rotate_left
        · (intro w hSw; (try dsimp only at hSw); simp only [List.getElem_toArray, List.getElem_cons_zero, List.getElem_cons_succ]; go_simp; try with_reducible rfl)
        simp only [List.getElem_toArray, List.getElem_cons_zero, List.getElem_cons_succ, Act.put, List.setIfInBounds_toArray, List.set_cons_zero, List.set_cons_succ]
        refine wpAnyH_ready (rs := [4]) (by kernel_rfl) (by simp) ?_
        refine AllReadyH.cons (o := _) rfl (fun K hK => ?_) AllReadyH.nil
        go_simp
        refine HEN.out.mono ?_
        rintro e w8 ⟨v8, rfl, hown8, hB8⟩
        obtain ⟨A8, c8, rfl, -, -⟩ := own_shape hown8
        have hcv8 := B.conv_put hown8
        have HB8 := Lib.hid (HB7.out.drew.trans (hB8.mono HB7.out.size))
        have HT8 := Lib.hid (((HT7.out.next ((Below.refl _ _).drew)).next hB8).widen hzw HB8.out.size hB8.size)
        have hcb8 : (convert 26 9 (.slice A n c)).run Try.prog w8 = .ok (.string (bs bl)) w8 := conv_sl (P := Try.prog) 26 5 9 Try.underlying26 Try.underlying5 Try.underlying9 (HS.out.below HB8.out) c
        clear hown8 hB8
        go_wp2_with fail
        refine hK.out _ _ (hcb8) (fun hHeld => ?_)
        clear hK K
        try simp only [Act.put, List.setIfInBounds_toArray, List.set_cons_zero, List.set_cons_succ]
        refine wpAnyH_ready (rs := [5]) (by kernel_rfl) (by simp) ?_
        refine AllReadyH.cons (o := _) rfl (fun K hK => ?_) AllReadyH.nil
        go_simp
        refine hK.out _ _ (hcb8) (fun hHeld => ?_)
        clear hK K
        try simp only [Act.put, List.setIfInBounds_toArray, List.set_cons_zero, List.set_cons_succ]
        refine wpAnyH_take (i := 8) (oi := _) (v := ?_) rfl (by kernel_rfl) (by kernel_rfl) (by kernel_rfl) (fun _ _ _ h => h) (Or.inl ⟨by rfl, ?_⟩) hHeld ?_
        rotate_left
        · (intro w hSw; (try dsimp only at hSw); simp only [List.getElem_toArray, List.getElem_cons_zero, List.getElem_cons_succ]; go_simp; try with_reducible rfl)
        simp only [List.getElem_toArray, List.getElem_cons_zero, List.getElem_cons_succ, Act.put, List.setIfInBounds_toArray, List.set_cons_zero, List.set_cons_succ]
        refine wpAnyH_take (i := 9) (oi := _) (v := ?_) rfl (by kernel_rfl) (by kernel_rfl) (by kernel_rfl) (fun _ _ _ h => h) (Or.inl ⟨by rfl, ?_⟩) hHeld ?_
        rotate_left
        · (intro w hSw; (try dsimp only at hSw); simp only [List.getElem_toArray, List.getElem_cons_zero, List.getElem_cons_succ]; go_simp; try with_reducible rfl)
        simp only [List.getElem_toArray, List.getElem_cons_zero, List.getElem_cons_succ, Act.put, List.setIfInBounds_toArray, List.set_cons_zero, List.set_cons_succ]
        refine wpAnyH_done (by kernel_rfl) ?_ _
        go_wp2
        go_ret2
        exact ⟨HB8.out, .inl ⟨L7, ks7, tb, HX.out.trans HEQ.out, rfl, HT8.out, fun L' ks' F' e' => (HL6.out L' ks' F' e').symm⟩⟩
end Go.Proofs.Ytpnkjfjkeoleaaa.LD
