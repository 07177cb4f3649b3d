/- GLdW: several texts in one: louds: kids, id, Len. louds: down, walk, Find. louds: Text. louds: Prefixes. Conditions: those each theorem names. -/
import Derived.Test.YtpnkjfjkeoleaaaGLdN
import Derived.Test.YtpnkjfjkeoleaaaGBvB
/-! louds: kids, id, Len. -/
set_option linter.unusedVariables false
set_option maxRecDepth 100000
namespace Go.Proofs.Ytpnkjfjkeoleaaa.LD
open Go.RowKit HK
open Go.Proofs.Ytpnkjfjkeoleaaa.B (rk SelAt Bv brank_any bsel_any bget_any getB clamp clamp_nat wf_i64)

theorem TrieAt.agree {w w' : World} {S E tb : Nat} {L : List Str} {ks : List (List Span)} (h : TrieAt w S E tb L ks) (ha : Agree S E w w') : TrieAt w' S E tb L ks := by
  obtain ⟨h1, h2, h3, h4, h5, b1, b2, A3, c3, b4, g4, A5, c5, hr, hb1, hb2, hs3, hp, k1, k2, k3, k4, hs5⟩ := h
  exact ⟨h1, h2, h3, h4, h5, b1, b2, A3, c3, b4, g4, A5, c5, hr.agree ha h4 h5, hb1.agree ha, hb2.agree ha, hs3.agree ha, ⟨hp.1.agree ha k1 k2, hp.2.agree ha k3 k4⟩, k1, k2, k3, k4, hs5.agree ha⟩
/-- A trie of the set L at tb. -/
structure TR (w : World) (S E tb : Nat) (L : List Str) (ks : List (List Span)) : Prop where
  good : Good L
  low : E ≤ w.heap.size
  at' : TrieAt w S E tb L ks
theorem TR.below {w w' : World} {S E tb B : Nat} {L : List Str} {ks : List (List Span)} (h : TR w S E tb L ks) (hb : Below B w w') (hB : E ≤ B) : TR w' S E tb L ks :=
  ⟨h.good, Nat.le_trans h.low hb.size, h.at'.agree (Agree.of_below hb hB)⟩
theorem TR.next {w w' : World} {S E tb : Nat} {L : List Str} {ks : List (List Span)} (h : TR w S E tb L ks) (hb : Below w.heap.size w w') : TR w' S E tb L ks := h.below hb h.low
theorem TR.drewN {w : World} {S E tb : Nat} {L : List Str} {ks : List (List Span)} (h : TR w S E tb L ks) (k : Nat) : TR (w.drewN k) S E tb L ks := ⟨h.good, h.low, h.at'.agree (fun _ _ _ => rfl)⟩
theorem TR.alloc {w : World} {S E tb : Nat} {L : List Str} {ks : List (List Span)} (h : TR w S E tb L ks) (o : Obj) : TR (w.alloc o) S E tb L ks := h.below ((Below.refl w.heap.size w).alloc (Nat.le_refl _) o) h.low
theorem TR.full {w : World} {S E tb : Nat} {L : List Str} {ks : List (List Span)} (h : TR w S E tb L ks) : Full L ks := ⟨h.good, h.at'.1, h.at'.2.1, h.at'.2.2.1⟩
theorem shape_len' {L : List Str} {ks : List (List Span)} (F : Full L ks) : (shapeOf ks).length = 1 + ks.length + ks.length := by
  rw [shape_len]; have := F.flat; omega
/-- What lies where. -/
theorem TR.cells {w : World} {S E tb : Nat} {L : List Str} {ks : List (List Span)} (h : TR w S E tb L ks) : ∃ b1 b2 A3 c3 b4 g4 A5 c5,
    w.cell? ⟨tb, 0, none⟩ = some (.pointer (some ⟨b1, 0, none⟩)) ∧ w.cell? ⟨tb, 1, none⟩ = some (.pointer (some ⟨b2, 0, none⟩)) ∧ w.cell? ⟨tb, 2, none⟩ = some (.slice A3 ks.flatten.length c3) ∧
    w.cell? ⟨tb, 3, none⟩ = some (.pointer (some ⟨b4, 0, none⟩)) ∧ w.cell? ⟨tb, 4, none⟩ = some (.slice A5 L.length c5) ∧
    Bv w S E b1 (shapeOf ks).length (bitsN (shapeOf ks)) ∧ Bv w S E b2 ks.length (bitsN ((allOf L ks).map (isAt L))) ∧ SlR w S E A3 ks.flatten.length ((ks.flatten.map (labelOf L)).map B.u8v) ∧
    PR w b4 g4 (idsOf L (allOf L ks)).length (widthL (idsOf L (allOf L ks))) (packN (widthL (idsOf L (allOf L ks))) (idsOf L (allOf L ks))) ∧ SlR w S E A5 L.length (nodA L L.length (allOf L ks)).toList := by
  have hF := h.full
  obtain ⟨h1, h2, h3, h4, h5, b1, b2, A3, c3, b4, g4, A5, c5, hr, hb1, hb2, hs3, hp, k1, k2, k3, k4, hs5⟩ := h.at'
  exact ⟨b1, b2, A3, c3, b4, g4, A5, c5, hr.cell 0, hr.cell 1, hr.cell 2, hr.cell 3, hr.cell 4, by rw [shape_len' hF]; exact hb1, hb2, hs3, hp, hs5⟩

theorem llen_any (w : World) (S E tb : Nat) (L : List Str) (ks : List (List Span)) (h : TR w S E tb L ks) :
    Calls Try.prog 24 #[.pointer (some ⟨tb, 0, none⟩)] w fun e w' => e = .returned (.int .i64 (L.length : Nat)) ∧ w = w' := by
  obtain ⟨b1, b2, A3, c3, b4, g4, A5, c5, hc0, hc1, hc2, hc3, hc4, hb1, hb2, hs3, hp, hs5⟩ := h.cells
  clear hb1 hb2 hs3 hp hs5 h hc0 hc1 hc2 hc3
  go_enter Try.func24, Try.ntmps24
  go_wp2
  go_ret
  exact ⟨rfl, rfl⟩
theorem llen_nil (w : World) : Calls Try.prog 24 #[.pointer none] w fun e w' => e = .returned (.int .i64 0) ∧ w = w' := by
  go_enter Try.func24, Try.ntmps24
  go_wp2
  go_ret
  exact ⟨rfl, rfl⟩

set_option maxHeartbeats 400000 in
theorem lkids_any (w : World) (S E tb : Nat) (L : List Str) (ks : List (List Span)) (h : TR w S E tb L ks) (i : Nat) (hi : i < ks.length) :
    Calls Try.prog 47 #[.pointer (some ⟨tb, 0, none⟩), .int .i64 (i : Nat)] w fun e w' => e = .returned (.tuple #[.int .i64 (1 + off ks i : Nat), .int .i64 (1 + off ks (i + 1) : Nat)]) ∧ Below w.heap.size w w' := by
  have F := h.full
  have hfew := F.few
  obtain ⟨b1, b2, A3, c3, b4, g4, A5, c5, hc0, hc1, hc2, hc3, hc4, hb1, hb2, hs3, hp, hs5⟩ := h.cells
  clear hb2 hs3 hp hs5 hc1 hc2 hc3 hc4
  have hlow := h.low
  have hp1 : Hid (SelAt (bitsN (shapeOf ks)) (shapeOf ks).length false (i : Nat) (pl ks i : Nat)) := Lib.hid (sel_false (by omega))
  have hp2 : Hid (SelAt (bitsN (shapeOf ks)) (shapeOf ks).length false ((i : Int) + 1) (pl ks (i + 1) : Nat)) := Lib.hid (sel_false (show i + 1 ≤ ks.length from hi))
  have hp3 : Hid (rk (bitsN (shapeOf ks)) true (pl ks i + 1) = 1 + off ks i) := Lib.hid (by rw [shape_rk (by omega)]; rfl)
  have hl1 : pl ks i < (shapeOf ks).length := pl_lt (by omega)
  have hl2 := pl_lt (show i + 1 ≤ ks.length from hi)
  rw [shape_len' F] at hl1 hl2
  have e1 : pl ks i = 1 + off ks i + i := rfl
  have e2 : pl ks (i + 1) = 1 + off ks (i + 1) + (i + 1) := rfl
  obtain ⟨p1, hp1'⟩ : ∃ p1, pl ks i = p1 := ⟨_, rfl⟩
  obtain ⟨p2, hp2'⟩ : ∃ p2, pl ks (i + 1) = p2 := ⟨_, rfl⟩
  have hlen := Lib.hid (shape_len' F)
  rw [hp1'] at hp1 hp3 hl1 e1
  rw [hp2'] at hp2 hl2 e2
  have H1 := Lib.hid hb1; clear hb1 h hp1' hp2'
  have E1 := Lib.hid e1; have E2 := Lib.hid e2
  have ho : 1 + off ks i ≤ p1 := by omega
  clear e1 e2
  go_enter Try.func47, Try.ntmps47
  go_wp2_with fail
  refine (bsel_any _ _ _ _ _ _ H1.out hlow false (i : Nat) (wf_i64 _ (by omega))).mono ?_
  rintro e w1 ⟨z, rfl, hz, hB1⟩
  obtain rfl := hz.same hp1.out
  have hc1 : w1.cell? ⟨tb, 0, none⟩ = some (.pointer (some ⟨b1, 0, none⟩)) := (hB1.cell (p := ⟨tb, 0, none⟩) (cell_lt hc0)).trans hc0
  have H2 := Lib.hid (H1.out.below hB1 hlow)
  have hs1 := hB1.size
  have HB1 := Lib.hid hB1; clear hB1 hz
  go_wp2_with fail
  refine (bsel_any _ _ _ _ _ _ H2.out (by omega) false ((i : Int) + 1) (wf_i64 (i + 1) (by omega))).mono ?_
  rintro e w2 ⟨z, rfl, hz, hB2⟩
  obtain rfl := hz.same hp2.out
  have hc2 : w2.cell? ⟨tb, 0, none⟩ = some (.pointer (some ⟨b1, 0, none⟩)) := (hB2.cell (p := ⟨tb, 0, none⟩) (cell_lt hc1)).trans hc1
  have H3 := Lib.hid (H2.out.below hB2 (by omega))
  have HB2 := Lib.hid (HB1.out.trans (hB2.mono hs1)); clear hB2 hz
  go_wp2_with fail
  refine (brank_any _ _ _ _ _ _ H3.out true ((p1 : Int) + 1) (wf_i64 (p1 + 1) (by omega))).mono ?_
  rw [show clamp ((p1 : Int) + 1) (shapeOf ks).length = p1 + 1 by rw [hlen.out]; unfold clamp; omega, hp3.out]
  rintro e w3 ⟨rfl, hq3⟩
  have HB3 := Lib.hid (HB2.out.trans (qbel _ hq3))
  go_wp2
  go_ret2
  have h1 := E1.out
  have h2 := E2.out
  rw [show ((1 + off ks (i + 1) : Nat) : Int) = 1 + (off ks i : Int) + (p2 : Int) - ((p1 : Int) + 1) by omega]
  exact ⟨rfl, HB3.out⟩

/-- What id says of a node. -/
def idV (L : List Str) (x : Span) : Value := if isAt L x then .tuple #[.int .i64 (x.f : Nat), .bool true] else .tuple #[.int .i64 0, .bool false]
set_option maxHeartbeats 1000000 in
theorem lid_any (w : World) (S E tb : Nat) (L : List Str) (ks : List (List Span)) (h : TR w S E tb L ks) (i : Nat) (x : Span) (hx : (allOf L ks)[i]? = some x) :
    Calls Try.prog 48 #[.pointer (some ⟨tb, 0, none⟩), .int .i64 (i : Nat)] w fun e w' => e = .returned (idV L x) ∧ ∃ q, w' = w.drewN q := by
  have F := h.full
  have hfew := F.few
  have hi := F.lt hx
  obtain ⟨b1, b2, A3, c3, b4, g4, A5, c5, hc0, hc1, hc2, hc3, hc4, hb1, hb2, hs3, hp, hs5⟩ := h.cells
  clear hb1 hs3 hs5 hc0 hc2 hc4
  have hbit : getB (bitsN ((allOf L ks).map (isAt L))) ks.length (i : Nat) = isAt L x := by
    unfold getB
    rw [Int.toNat_natCast, is_at hx]
    simp [hi]
  have H2 := Lib.hid hb2; have HP := Lib.hid hp; clear hb2 hp
  cases hat : isAt L x with
  | false =>
    have HBIT : Hid _ := Lib.hid (hbit.trans hat)
    have hv : idV L x = .tuple #[.int .i64 0, .bool false] := by unfold idV; rw [hat]; rfl
    rw [hv]
    clear hbit h hv
    go_enter Try.func48, Try.ntmps48
    go_wp2_with fail
    refine (bget_any _ _ _ _ _ _ H2.out (i : Nat) (wf_i64 _ (by omega))).mono ?_
    rw [HBIT.out]
    rintro e w1 ⟨rfl, q, rfl⟩
    go_wp2
    go_ret2
    exact ⟨rfl, q, rfl⟩
  | true =>
    have HBIT : Hid _ := Lib.hid (hbit.trans hat)
    have hv : idV L x = .tuple #[.int .i64 (x.f : Nat), .bool true] := by unfold idV; rw [hat]; rfl
    rw [hv]
    have hids := ids_at hx hat
    obtain ⟨r, hr⟩ : ∃ r, rk (bitsN ((allOf L ks).map (isAt L))) true i = r := ⟨_, rfl⟩
    rw [hr] at hids
    have hrl := (List.getElem?_eq_some_iff.1 hids).1
    have hil : (idsOf L (allOf L ks)).length ≤ ks.length := by
      unfold idsOf
      rw [List.length_map]
      exact Nat.le_trans (List.length_filter_le _ _) (by rw [F.len]; exact Nat.le_refl _)
    have hxf : x.f < 2 ^ 63 := by
      have h1 := (isAt_str hat).1
      have h2 := (F.ok hx).le
      have h3 := F.good.few
      omega
    have h64 : ∀ v ∈ idsOf L (allOf L ks), v < 2 ^ 64 := idsOf_lt F.good (fun x hx => F.bfs.ok F.good x hx)
    have hdig : packN (widthL (idsOf L (allOf L ks))) (idsOf L (allOf L ks)) / 2 ^ (r * widthL (idsOf L (allOf L ks))) % 2 ^ widthL (idsOf L (allOf L ks)) = x.f := by
      rw [Nat.mul_comm, packN_digit _ _ _ ((widthL_le_iff _ _).1 (Nat.le_refl _)) hrl]
      exact (List.getElem?_eq_some_iff.1 hids).2
    have hget : ∀ W : World, W.heap = w.heap → Calls Try.prog 73 #[.pointer (some ⟨b4, 0, none⟩), .int .i64 (r : Nat)] W fun e w' => e = .returned (.tuple #[.int .u64 (x.f : Nat), .bool true]) ∧ ∃ k, w' = W.drewN k := by
      intro W hW
      have h1 := pget2_in b4 g4 (idsOf L (allOf L ks)).length (widthL (idsOf L (allOf L ks))) r (packN (widthL (idsOf L (allOf L ks))) (idsOf L (allOf L ks))) W (by omega) (widthL_le_64 _ h64) hrl ⟨by unfold Row; rw [hW]; exact HP.out.1, by unfold Row; rw [hW]; exact HP.out.2⟩
      rw [hdig] at h1
      exact h1
    have hrank : ∀ W : World, W.heap = w.heap → Calls Try.prog 56 #[.pointer (some ⟨b2, 0, none⟩), .bool true, .int .i64 (i : Nat)] W fun e w' => e = .returned (.int .i64 (r : Nat)) ∧ ∃ k, w' = W.drewN k := by
      intro W hW
      have h1 := brank_any W _ _ _ _ _ (H2.out.agree (fun k _ _ => by rw [hW])) true (i : Nat) (wf_i64 _ (by omega))
      rw [clamp_nat _ _ (by omega), hr] at h1
      exact h1
    have HG := Lib.hid hget; have HR := Lib.hid hrank
    obtain ⟨y, hy⟩ : ∃ y, x.f = y := ⟨_, rfl⟩
    rw [hy] at hxf HG ⊢
    clear hbit h hids hr hrl hil hget hrank hv hx hy hat hdig h64
    go_enter Try.func48, Try.ntmps48
    go_wp2_with fail
    refine (bget_any _ _ _ _ _ _ H2.out (i : Nat) (wf_i64 _ (by omega))).mono ?_
    rw [HBIT.out]
    rintro e w1 ⟨rfl, q, rfl⟩
    go_wp2
    refine wp_region_held_drew (S := fun w' => w'.cell? ⟨tb, 3, none⟩ = some (.pointer (some ⟨b4, 0, none⟩)) ∧ w'.cell? ⟨tb, 1, none⟩ = some (.pointer (some ⟨b2, 0, none⟩))) (by kernel_rfl) ⟨hc3, hc1⟩ (fun hHeld => ?_)
    refine wpAnyH_take (i := 0) (oi := _) (v := ?_) rfl (by kernel_rfl) (by kernel_rfl) (by kernel_rfl) (fun _ _ _ h => h) (Or.inl ⟨by rfl, ?_⟩) hHeld ?_
    rotate_left
    · (intro w hSw; (try dsimp only at hSw); simp only [List.getElem_toArray, List.getElem_cons_zero]; go_simp; try with_reducible rfl)
    simp only [List.getElem_toArray, List.getElem_cons_zero, Act.put, List.setIfInBounds_toArray, List.set_cons_zero, List.set_cons_succ]
    refine wpAnyH_take (i := 1) (oi := _) (v := ?_) rfl (by kernel_rfl) (by kernel_rfl) (by kernel_rfl) (fun _ _ _ h => h) (Or.inl ⟨by rfl, ?_⟩) hHeld ?_
    rotate_left
    · (intro w hSw; (try dsimp only at hSw); simp only [List.getElem_toArray, List.getElem_cons_zero, List.getElem_cons_succ]; go_simp; try with_reducible rfl)
    simp only [List.getElem_toArray, List.getElem_cons_zero, List.getElem_cons_succ, Act.put, List.setIfInBounds_toArray, List.set_cons_zero, List.set_cons_succ]
    refine wpAnyH_take (i := 2) (oi := _) (v := ?_) rfl (by kernel_rfl) (by kernel_rfl) (by kernel_rfl) (fun _ _ _ h => h) (Or.inl ⟨by rfl, ?_⟩) hHeld ?_
    rotate_left
    · (intro w hSw; (try dsimp only at hSw); simp only [List.getElem_toArray, List.getElem_cons_zero, List.getElem_cons_succ]; go_simp; try with_reducible rfl)
    simp only [List.getElem_toArray, List.getElem_cons_zero, List.getElem_cons_succ, Act.put, List.setIfInBounds_toArray, List.set_cons_zero, List.set_cons_succ]
    refine wpAnyH_take (i := 3) (oi := _) (v := ?_) rfl (by kernel_rfl) (by kernel_rfl) (by kernel_rfl) (fun _ _ _ h => h) (Or.inl ⟨by rfl, ?_⟩) hHeld ?_
    rotate_left
    · (intro w hSw; (try dsimp only at hSw); simp only [List.getElem_toArray, List.getElem_cons_zero, List.getElem_cons_succ]; go_simp; try with_reducible rfl)
    simp only [List.getElem_toArray, List.getElem_cons_zero, List.getElem_cons_succ, Act.put, List.setIfInBounds_toArray, List.set_cons_zero, List.set_cons_succ]
    refine wpAnyH_take (i := 4) (oi := _) (v := ?_) rfl (by kernel_rfl) (by kernel_rfl) (by kernel_rfl) (fun _ _ _ h => h) (Or.inl ⟨by rfl, ?_⟩) hHeld ?_
    rotate_left
    · (intro w hSw; (try dsimp only at hSw); simp only [List.getElem_toArray, List.getElem_cons_zero, List.getElem_cons_succ]; go_simp; try with_reducible rfl)
    simp only [List.getElem_toArray, List.getElem_cons_zero, List.getElem_cons_succ, Act.put, List.setIfInBounds_toArray, List.set_cons_zero, List.set_cons_succ]
    refine wpAnyH_take (i := 5) (oi := _) (v := ?_) rfl (by kernel_rfl) (by kernel_rfl) (by kernel_rfl) (fun _ _ _ h => h) (Or.inl ⟨by rfl, ?_⟩) hHeld ?_
    rotate_left
    · (intro w hSw; (try dsimp only at hSw); simp only [List.getElem_toArray, List.getElem_cons_zero, List.getElem_cons_succ]; go_simp; try with_reducible rfl)
    simp only [List.getElem_toArray, List.getElem_cons_zero, List.getElem_cons_succ, Act.put, List.setIfInBounds_toArray, List.set_cons_zero, List.set_cons_succ]
    refine wpAnyH_take (i := 6) (oi := _) (v := ?_) rfl (by kernel_rfl) (by kernel_rfl) (by kernel_rfl) (fun _ _ _ h => h) (Or.inl ⟨by rfl, ?_⟩) hHeld ?_
    rotate_left
    · (intro w hSw; (try dsimp only at hSw); simp only [List.getElem_toArray, List.getElem_cons_zero, List.getElem_cons_succ]; go_simp; try with_reducible rfl)
    simp only [List.getElem_toArray, List.getElem_cons_zero, List.getElem_cons_succ, Act.put, List.setIfInBounds_toArray, List.set_cons_zero, List.set_cons_succ]
    refine wpAnyH_take (i := 7) (oi := _) (v := ?_) rfl (by kernel_rfl) (by kernel_rfl) (by kernel_rfl) (fun _ _ _ h => h) (Or.inl ⟨by rfl, ?_⟩) hHeld ?_
    rotate_left
    · (intro w hSw; (try dsimp only at hSw); simp only [List.getElem_toArray, List.getElem_cons_zero, List.getElem_cons_succ]; go_simp; try with_reducible rfl)
    simp only [List.getElem_toArray, List.getElem_cons_zero, List.getElem_cons_succ, Act.put, List.setIfInBounds_toArray, List.set_cons_zero, List.set_cons_succ]
    refine wpAnyH_take (i := 8) (oi := _) (v := ?_) rfl (by kernel_rfl) (by kernel_rfl) (by kernel_rfl) (fun _ _ _ h => h) (Or.inl ⟨by rfl, ?_⟩) hHeld ?_
    rotate_left
    · (intro w hSw; (try dsimp only at hSw); simp only [List.getElem_toArray, List.getElem_cons_zero, List.getElem_cons_succ]; go_simp; try with_reducible rfl)
    simp only [List.getElem_toArray, List.getElem_cons_zero, List.getElem_cons_succ, Act.put, List.setIfInBounds_toArray, List.set_cons_zero, List.set_cons_succ]
    refine wpAnyH_ready (rs := [9]) (by kernel_rfl) (by simp) ?_
    refine AllReadyH.cons (o := _) rfl (fun K hK => ?_) AllReadyH.nil
    go_simp
    refine (HR.out (w.drewN _) rfl).mono ?_
    rintro e w2 ⟨rfl, q2, rfl⟩
    go_wp2_with fail
    refine hK.out _ _ (⟨hc3, hc1⟩) (fun hHeld => ?_)
    clear hK K
    try simp only [Act.put, List.setIfInBounds_toArray, List.set_cons_zero, List.set_cons_succ]
    refine wpAnyH_ready (rs := [10]) (by kernel_rfl) (by simp) ?_
    refine AllReadyH.cons (o := _) rfl (fun K hK => ?_) AllReadyH.nil
    go_simp
    refine (HG.out (w.drewN _) rfl).mono ?_
    rintro e w3 ⟨rfl, q3, rfl⟩
    go_wp2_with fail
    refine hK.out _ _ (⟨hc3, hc1⟩) (fun hHeld => ?_)
    clear hK K
    try simp only [Act.put, List.setIfInBounds_toArray, List.set_cons_zero, List.set_cons_succ]
    refine wpAnyH_take (i := 11) (oi := _) (v := ?_) rfl (by kernel_rfl) (by kernel_rfl) (by kernel_rfl) (fun _ _ _ h => h) (Or.inl ⟨by rfl, ?_⟩) hHeld ?_
    rotate_left
    · (intro w hSw; (try dsimp only at hSw); simp only [List.getElem_toArray, List.getElem_cons_zero, List.getElem_cons_succ]; go_simp; try with_reducible rfl)
    simp only [List.getElem_toArray, List.getElem_cons_zero, List.getElem_cons_succ, Act.put, List.setIfInBounds_toArray, List.set_cons_zero, List.set_cons_succ]
    refine wpAnyH_take (i := 12) (oi := _) (v := ?_) rfl (by kernel_rfl) (by kernel_rfl) (by kernel_rfl) (fun _ _ _ h => h) (Or.inl ⟨by rfl, ?_⟩) hHeld ?_
    rotate_left
    · (intro w hSw; (try dsimp only at hSw); simp only [List.getElem_toArray, List.getElem_cons_zero, List.getElem_cons_succ]; go_simp; try with_reducible rfl)
    simp only [List.getElem_toArray, List.getElem_cons_zero, List.getElem_cons_succ, Act.put, List.setIfInBounds_toArray, List.set_cons_zero, List.set_cons_succ]
    refine wpAnyH_take (i := 13) (oi := _) (v := ?_) rfl (by kernel_rfl) (by kernel_rfl) (by kernel_rfl) (fun _ _ _ h => h) (Or.inl ⟨by rfl, ?_⟩) hHeld ?_
    rotate_left
    · (intro w hSw; (try dsimp only at hSw); simp only [List.getElem_toArray, List.getElem_cons_zero, List.getElem_cons_succ]; go_simp; try with_reducible rfl)
    simp only [List.getElem_toArray, List.getElem_cons_zero, List.getElem_cons_succ, Act.put, List.setIfInBounds_toArray, List.set_cons_zero, List.set_cons_succ]
    refine wpAnyH_take (i := 14) (oi := _) (v := ?_) rfl (by kernel_rfl) (by kernel_rfl) (by kernel_rfl) (fun _ _ _ h => h) (Or.inl ⟨by rfl, ?_⟩) hHeld ?_
    rotate_left
    · (intro w hSw; (try dsimp only at hSw); simp only [List.getElem_toArray, List.getElem_cons_zero, List.getElem_cons_succ]; go_simp; try with_reducible rfl)
    simp only [List.getElem_toArray, List.getElem_cons_zero, List.getElem_cons_succ, Act.put, List.setIfInBounds_toArray, List.set_cons_zero, List.set_cons_succ]
    refine wpAnyH_take (i := 15) (oi := _) (v := ?_) rfl (by kernel_rfl) (by kernel_rfl) (by kernel_rfl) (fun _ _ _ h => h) (Or.inl ⟨by rfl, ?_⟩) hHeld ?_
    rotate_left
    · (intro w hSw; (try dsimp only at hSw); simp only [List.getElem_toArray, List.getElem_cons_zero, List.getElem_cons_succ]; go_simp; try with_reducible rfl)
    simp only [List.getElem_toArray, List.getElem_cons_zero, List.getElem_cons_succ, Act.put, List.setIfInBounds_toArray, List.set_cons_zero, List.set_cons_succ]
    refine wpAnyH_done (by kernel_rfl) ?_ _
    go_wp2
    go_ret2
    exact ⟨rfl, _, rfl⟩
end Go.Proofs.Ytpnkjfjkeoleaaa.LD

/-! louds: down, walk, Find. -/
set_option linter.unusedVariables false
namespace Go.Proofs.Ytpnkjfjkeoleaaa.LD
open Go.RowKit HK
open Go.Proofs.Ytpnkjfjkeoleaaa.B (bytesOf bytesOf_len bytesOf_lt)

/-- The label of node c. -/
def lab (L : List Str) (ks : List (List Span)) (c : Nat) : Nat := labelOf L ((allOf L ks).getD c (root L))
theorem byte_lt {L : List Str} (hg : Good L) (j d : Nat) : byte L j d < 256 := by
  unfold byte
  rw [List.getD_eq_getElem?_getD]
  cases h : (at_ L j)[d]? with
  | none => simp
  | some v =>
    have hv := List.mem_of_getElem? h
    unfold at_ at hv
    rw [List.getD_eq_getElem?_getD] at hv
    cases h2 : L[j]? with
    | none => rw [h2] at hv; simp at hv
    | some s => rw [h2] at hv; exact hg.byt s (List.mem_of_getElem? h2) v hv
theorem lab_of {L : List Str} {ks : List (List Span)} {c : Nat} {s : Span} (h : (allOf L ks)[c]? = some s) : lab L ks c = labelOf L s := by
  unfold lab
  rw [List.getD_eq_getElem?_getD, h]; rfl
section
variable {L : List Str} {ks : List (List Span)} (F : Full L ks)
include F
theorem Full.lab_lt (c : Nat) : lab L ks c < 256 := byte_lt F.good _ _
theorem Full.lab_at {c : Nat} (hc : c + 1 < ks.length) : (ks.flatten.map (labelOf L))[c]? = some (lab L ks (c + 1)) := by
  have h1 : c + 1 < (allOf L ks).length := by rw [F.len]; exact hc
  have h2 := List.getElem?_eq_getElem h1
  rw [lab_of h2, List.getElem?_map]
  unfold allOf at h2
  rw [List.getElem?_cons_succ] at h2
  rw [h2]; rfl
theorem Full.kid_iff {i b c : Nat} (hi : i < ks.length) : Kid1 L ks i b c ↔ 1 + off ks i ≤ c ∧ c < 1 + off ks (i + 1) ∧ lab L ks c = b := by
  obtain ⟨x, xs, h1, h2, h3, h4, h5, h6, h7, h8⟩ := F.node hi
  constructor
  · rintro ⟨xs', j, s, g1, g2, g3, rfl⟩
    rw [h2] at g1; injection g1 with g1; subst g1
    have hj := (List.getElem?_eq_some_iff.1 g2).1
    refine ⟨by omega, by omega, ?_⟩
    rw [lab_of ((h8 j hj).trans g2), g3]
  · rintro ⟨g1, g2, g3⟩
    have hj : c - (1 + off ks i) < xs.length := by omega
    have g4 := h8 _ hj
    rw [show 1 + off ks i + (c - (1 + off ks i)) = c by omega, List.getElem?_eq_getElem hj] at g4
    refine ⟨xs, c - (1 + off ks i), _, h2, List.getElem?_eq_getElem hj, ?_, by omega⟩
    rw [← lab_of g4, g3]
theorem Full.lab_asc {i c d : Nat} (hi : i < ks.length) (h1 : 1 + off ks i ≤ c) (h : c < d) (h2 : d < 1 + off ks (i + 1)) : lab L ks c < lab L ks d := by
  obtain ⟨xs, j, s, g1, g2, g3, g4⟩ := (F.kid_iff (b := lab L ks c) hi).2 ⟨h1, by omega, rfl⟩
  obtain ⟨xs', j', s', g1', g2', g3', g4'⟩ := (F.kid_iff (b := lab L ks d) hi).2 ⟨by omega, h2, rfl⟩
  rw [g1] at g1'; injection g1' with g1'; subst g1'
  obtain ⟨x, xs', k1, k2, k3, k4, _⟩ := F.node hi
  rw [g1] at k2; injection k2 with k2; subst k2
  rw [← g3, ← g3']
  exact kids_asc F.good k4 k3 g2 g2' (by omega)
end
/-- What down says. -/
def DownPost (w : World) (L : List Str) (ks : List (List Span)) (i b : Nat) (e : Ending) (w' : World) : Prop :=
  ∃ (c : Nat) (ok : Bool), e = .returned (.tuple #[.int .i64 (c : Nat), .bool ok]) ∧ c ≤ ks.length ∧ (ok = true → Kid1 L ks i b c) ∧ (ok = false → ∀ d, ¬ Kid1 L ks i b d) ∧ Below w.heap.size w w'
/-- The labels lie there. -/
def Labs (w : World) (L : List Str) (ks : List (List Span)) (tb : Nat) (A3 : Option Addr) (c3 : Nat) : Prop :=
  w.cell? ⟨tb, 2, none⟩ = some (.slice A3 ks.flatten.length c3) ∧ ∀ c, c + 1 < ks.length → ∃ g o, A3 = some ⟨g, o, none⟩ ∧ w.cell? ⟨g, o + c, none⟩ = some (.int .u8 (lab L ks (c + 1) : Nat))
theorem TR.labs {w : World} {S E tb : Nat} {L : List Str} {ks : List (List Span)} (h : TR w S E tb L ks) : ∃ A3 c3, ∀ W, Below w.heap.size w W → Labs W L ks tb A3 c3 := by
  obtain ⟨b1, b2, A3, c3, b4, g4, A5, c5, hc0, hc1, hc2, hc3, hc4, hb1, hb2, hs3, hp, hs5⟩ := h.cells
  refine ⟨A3, c3, fun W hW => ⟨(hW.cell (p := ⟨tb, 2, none⟩) (cell_lt hc2)).trans hc2, fun c hc => ?_⟩⟩
  have F := h.full
  have hfl := F.flat
  obtain ⟨g, o, h1, h2, h3, h4⟩ := hs3.2 (by omega)
  refine ⟨g, o, h1, ?_⟩
  have h5 := h4 c (.int .u8 (lab L ks (c + 1) : Nat)) (by rw [List.getElem?_map, F.lab_at hc]; rfl)
  exact (hW.cell (p := ⟨g, o + c, none⟩) (cell_lt h5)).trans h5

set_option maxHeartbeats 4000000 in
theorem ldown_any (w : World) (S E tb : Nat) (L : List Str) (ks : List (List Span)) (h : TR w S E tb L ks) (i : Nat) (hi : i < ks.length) (b : Nat) (hb : b < 256) :
    Calls Try.prog 54 #[.pointer (some ⟨tb, 0, none⟩), .int .i64 (i : Nat), .int .u8 (b : Nat)] w (DownPost w L ks i b) := by
  have F := Lib.hid h.full
  have hfew := F.out.few
  obtain ⟨A3, c3, hlabs⟩ := h.labs
  obtain ⟨x, xs, _, _, _, _, hoi, hos, hoe, _⟩ := F.out.node hi
  have hfl : ks.flatten.length + 1 = ks.length := F.out.flat
  obtain ⟨a, ha⟩ : ∃ a, 1 + off ks i = a := ⟨_, rfl⟩
  obtain ⟨z, hz⟩ : ∃ z, 1 + off ks (i + 1) = z := ⟨_, rfl⟩
  have haz : a ≤ z := by omega
  have ha1 : 1 ≤ a := by omega
  have hze : z ≤ ks.length := by omega
  have HK := Lib.hid (lkids_any w S E tb L ks h i hi)
  have HK2 : Hid (∀ W, Below w.heap.size w W → Calls Try.prog 47 #[.pointer (some ⟨tb, 0, none⟩), .int .i64 (i : Nat)] W fun e w' => e = .returned (.tuple #[.int .i64 (a : Nat), .int .i64 (z : Nat)]) ∧ Below W.heap.size W w') := Lib.hid (fun W hW => by
    rw [← ha, ← hz]; exact lkids_any W S E tb L ks (h.next hW) i hi)
  have HASC : Hid (∀ c d, a ≤ c → c < d → d < z → lab L ks c < lab L ks d) := Lib.hid (fun c d h1 h2 h3 => F.out.lab_asc hi (by omega) h2 (by omega))
  have HKI : Hid (∀ c, Kid1 L ks i b c ↔ a ≤ c ∧ c < z ∧ lab L ks c = b) := Lib.hid (fun c => by rw [F.out.kid_iff hi, ha, hz])
  have HLT : Hid (∀ c, lab L ks c < 256) := Lib.hid (fun c => F.out.lab_lt c)
  rw [ha, hz] at HK
  have HL := Lib.hid hlabs
  clear h hlabs hos hoe hoi ha hz
  generalize hnf : ks.flatten.length = nf at hfl HL
  go_enter Try.func54, Try.ntmps54
  go_wp2_with fail
  refine HK.out.mono ?_
  rintro e w1 ⟨rfl, hB1⟩
  obtain ⟨hcl, hlab⟩ := HL.out w1 hB1
  rw [hnf] at hcl
  have HLAB := Lib.hid hlab
  have HB1 := Lib.hid hB1
  clear hlab hB1
  go_wp2
  go_loopw [8, 9] (fun u v wr => ∃ f t : Nat, a ≤ f ∧ f ≤ t ∧ t ≤ z ∧ u = .int .i64 f ∧ v = .int .i64 t ∧ Hid ((∀ c, a ≤ c → c < f → lab L ks c < b) ∧ (∀ c, t ≤ c → c < z → b ≤ lab L ks c)) ∧ wr = w1) (fun u v _ => (intOf v).toNat - (intOf u).toNat)
  case atStart => exact ⟨a, z, Nat.le_refl _, haz, Nat.le_refl _, rfl, rfl, Lib.hid ⟨fun x h h2 => by omega, fun x h h2 => by omega⟩, rfl⟩
  case round =>
    obtain ⟨f, t, h1, h2, h3, rfl, rfl, HI, rfl⟩ := hrel
    by_cases hlt : f < t
    · obtain ⟨m, hm⟩ : ∃ m : Nat, ((f : Int) + (t : Int)) / 2 = (m : Int) + 1 := ⟨(f + t) / 2 - 1, by omega⟩
      obtain ⟨g, o, hA, hcm⟩ := HLAB.out m (by omega)
      obtain ⟨y, hy⟩ : ∃ y, lab L ks (m + 1) = y := ⟨_, rfl⟩
      rw [hy] at hcm
      have HY := Lib.hid hy; clear hy
      have i1 : (0 : Int) ≤ (m : Int) := by omega
      have i2 : (m : Int) < (nf : Int) := by omega
      by_cases hyb : y < b
      · have hb1 : decide ((y : Int) < (b : Int)) = true := by simp; omega
        go_wp2
        go_roundw
        case rel =>
          refine ⟨m + 1 + 1, t, by omega, by omega, h3, by go_num, rfl, Lib.hid ⟨fun c c1 c2 => ?_, HI.out.2⟩, trivial⟩
          rcases Nat.lt_or_ge c (m + 1) with c3 | c3
          · have := HASC.out c (m + 1) c1 c3 (by omega); rw [HY.out] at this; omega
          · rw [show c = m + 1 by omega, HY.out]; exact hyb
        case measure => simp [intOf]; omega
      · have hb1 : decide ((y : Int) < (b : Int)) = false := by simp; omega
        go_wp2
        go_roundw
        case rel =>
          refine ⟨f, m + 1, by omega, by omega, by omega, rfl, by go_num, Lib.hid ⟨HI.out.1, fun c c1 c2 => ?_⟩, trivial⟩
          rcases Nat.eq_or_lt_of_le c1 with c3 | c3
          · rw [← c3, HY.out]; omega
          · have := HASC.out (m + 1) c (by omega) c3 c2; rw [HY.out] at this; omega
        case measure => simp [intOf]; omega
    · obtain rfl : f = t := by omega
      go_wp2_with fail
      refine (HK2.out _ HB1.out).mono ?_
      rintro e w2 ⟨rfl, hB2⟩
      have hB12 := HB1.out.trans (hB2.mono HB1.out.size)
      obtain ⟨hcl2, hlab2⟩ := HL.out w2 hB12
      rw [hnf] at hcl2
      have HLAB2 := Lib.hid hlab2
      have HB2 := Lib.hid hB12
      clear hlab2 hB2 hB12
      obtain ⟨m, rfl⟩ : ∃ m, f = m + 1 := ⟨f - 1, by omega⟩
      by_cases hfz : m + 1 < z
      · obtain ⟨g, o, hA, hcm⟩ := HLAB2.out m (by omega)
        obtain ⟨y, hy⟩ : ∃ y, lab L ks (m + 1) = y := ⟨_, rfl⟩
        rw [hy] at hcm
        have HY := Lib.hid hy; clear hy
        have i1 : (0 : Int) ≤ (m : Int) := by omega
        have i2 : (m : Int) < (nf : Int) := by omega
        have hb0 : decide ((m : Int) + 1 < (z : Int)) = true := by simp; omega
        by_cases hyb : y = b
        · have hb1 : ((y : Int) == (b : Int)) = true := by simp; omega
          have HYB := Lib.hid hyb; clear hyb
          go_wp2
          go_quiet (fail)
          go_wp2
          go_ret2
          exact ⟨m + 1, true, rfl, by omega, fun _ => (HKI.out _).2 ⟨h1, hfz, by rw [HY.out, HYB.out]⟩, fun h => (by cases h), bel_drewN HB2.out _⟩
        · have hb1 : ((y : Int) == (b : Int)) = false := by simp; omega
          have HYB := Lib.hid hyb; clear hyb
          go_wp2
          go_quiet (fail)
          go_wp2
          go_ret2
          refine ⟨m + 1, false, rfl, by omega, fun h => (by cases h), fun _ d hd => ?_, bel_drewN HB2.out _⟩
          obtain ⟨d1, d2, d3⟩ := (HKI.out d).1 hd
          have hh := HY.out
          have hn := HYB.out
          rcases Nat.lt_trichotomy d (m + 1) with d4 | d4 | d4
          · have := HI.out.1 d d1 d4; omega
          · rw [d4, hh] at d3; exact hn d3
          · have e1 := HASC.out (m + 1) d h1 d4 d2
            have e2 := HI.out.2 (m + 1) (Nat.le_refl _) hfz
            omega
      · have hb0 : decide ((m : Int) + 1 < (z : Int)) = false := by simp; omega
        go_wp2
        go_quiet (fail)
        go_wp2
        go_ret2
        refine ⟨m + 1, false, rfl, by omega, fun h => (by cases h), fun _ d hd => ?_, bel_drewN HB2.out _⟩
        obtain ⟨d1, d2, d3⟩ := (HKI.out d).1 hd
        have := HI.out.1 d d1 (by omega)
        omega

/-- What walk says. -/
def WalkPost (w : World) (L : List Str) (ks : List (List Span)) (p : Str) (e : Ending) (w' : World) : Prop :=
  ∃ (c : Nat) (ok : Bool), e = .returned (.tuple #[.int .i64 (c : Nat), .bool ok]) ∧ (ok = true → Reach L ks p c) ∧ (ok = false → ∀ d, ¬ Reach L ks p d) ∧ Below w.heap.size w w'
theorem step_ok {L : List Str} {ks : List (List Span)} (F : Full L ks) {s : Str} {k node c b : Nat} {ok : Bool} (hk : s[k]? = some b) (hr : Reach L ks (s.take k) node) (h1 : ok = true → Kid1 L ks node b c) (h2 : ok = false → ∀ d, ¬ Kid1 L ks node b d) :
    (ok = true → Reach L ks (s.take (k + 1)) c) ∧ (ok = false → ∀ d, ¬ Reach L ks (s.take (k + 1)) d) := by
  have e : s.take (k + 1) = s.take k ++ [b] := by rw [List.take_add_one, hk]; rfl
  rw [e]
  exact ⟨fun h => F.kid_reach hr (h1 h), fun h d hd => h2 h d (F.kid_of hr hd)⟩
set_option maxHeartbeats 2000000 in
theorem lwalk_any (w : World) (S E tb : Nat) (L : List Str) (ks : List (List Span)) (h : TR w S E tb L ks) (s : ByteArray) (hs : s.size ≤ maxLen) :
    Calls Try.prog 45 #[.pointer (some ⟨tb, 0, none⟩), .string s] w (WalkPost w L ks (bytesOf s)) := by
  unfold maxLen at hs
  have F := Lib.hid h.full
  have H := Lib.hid h; clear h
  obtain ⟨n, hn⟩ : ∃ n, s.size = n := ⟨_, rfl⟩
  have hn' : ((s.size : Nat) : Int) = (n : Int) := by rw [hn]
  rw [hn] at hs
  have HN := Lib.hid hn
  clear hn
  go_enter Try.func45, Try.ntmps45
  go_wp2
  go_loopw [6, 7, 8] (fun u v x wr => ∃ (node k : Nat) (ok : Bool), u = .int .i64 node ∧ v = .bool ok ∧ x = .int .i64 k ∧ k ≤ n ∧ Hid ((ok = true → Reach L ks ((bytesOf s).take k) node) ∧ (ok = false → ∀ d, ¬ Reach L ks ((bytesOf s).take k) d)) ∧ Hid (TR wr S E tb L ks ∧ Below w.heap.size w wr)) (fun _ _ x _ => n - (intOf x).toNat)
  case atStart => exact ⟨0, 0, true, rfl, rfl, rfl, Nat.zero_le _, Lib.hid ⟨fun _ => by simpa using F.out.reach0, fun h => (by cases h)⟩, Lib.hid ⟨H.out, Below.refl _ _⟩⟩
  case round =>
    obtain ⟨node, k, ok, rfl, rfl, rfl, hk, HI, HW⟩ := hrel
    by_cases hlt : k < n
    · have hb0 : decide ((k : Int) < (n : Int)) = true := by simp; omega
      cases ok with
      | false =>
        go_wp2
        go_ret2
        refine ⟨node, false, rfl, fun h => (by cases h), fun _ d hd => ?_, HW.out.2⟩
        have h1 := F.out.no_more (HI.out.2 (by simp)) (q := (bytesOf s).drop k)
        rw [List.take_append_drop] at h1
        exact h1 d hd
      | true =>
        have hrn := HI.out.1 (by simp)
        have hnl := F.out.reach_lt hrn
        have hlen : k < (bytesOf s).length := by rw [bytesOf_len, HN.out]; exact hlt
        have hix := idx_str s k hlen
        have hbl : (bytesOf s).getD k 0 < 256 := by
          rw [List.getD_eq_getElem?_getD, List.getElem?_eq_getElem hlen]
          exact bytesOf_lt s _ (List.getElem_mem _)
        have hbk : (bytesOf s)[k]? = some ((bytesOf s).getD k 0) := by
          rw [List.getD_eq_getElem?_getD, List.getElem?_eq_getElem hlen]; rfl
        obtain ⟨b, hb⟩ : ∃ b, (bytesOf s).getD k 0 = b := ⟨_, rfl⟩
        rw [hb] at hix hbl hbk
        have HBK := Lib.hid hbk; have HRN := Lib.hid hrn
        clear hb hbk hrn hlen
        go_wp2_with fail
        refine (ldown_any wr S E tb L ks HW.out.1 node hnl b hbl).mono ?_
        rintro e w1 ⟨c, ok, rfl, hc, h1, h2, hB⟩
        have HI2 := Lib.hid (step_ok F.out HBK.out HRN.out h1 h2)
        have HW2 : Hid (TR w1 S E tb L ks ∧ Below w.heap.size w w1) := Lib.hid ⟨HW.out.1.next hB, HW.out.2.trans (hB.mono HW.out.2.size)⟩
        clear h1 h2 hB hix
        go_wp2
        go_roundw
        case rel => exact ⟨c, k + 1, ok, rfl, rfl, by go_num, hlt, HI2, HW2⟩
        case measure => simp [intOf]; omega
    · have hb0 : decide ((k : Int) < (n : Int)) = false := by simp; omega
      go_wp2
      go_ret2
      have e : (bytesOf s).take k = bytesOf s := List.take_of_length_le (by rw [bytesOf_len, HN.out]; omega)
      have := HI.out
      rw [e] at this
      exact ⟨node, ok, rfl, this.1, this.2, HW.out.2⟩

/-- What Find says of the string p. -/
def findV (L : List Str) (p : Str) : Value := match idx L p with
  | some k => .tuple #[.int .i64 (k : Nat), .bool true]
  | none => .tuple #[.int .i64 0, .bool false]
theorem long_none {L : List Str} (hg : Good L) {p : Str} (h : 256 < p.length) : idx L p = none :=
  idx_none (fun k hk e => by have := (hg.lenAt hk).2; rw [e] at this; omega)
theorem idV_find {L : List Str} {ks : List (List Span)} (F : Full L ks) {p : Str} {i : Nat} {x : Span} (hx : (allOf L ks)[i]? = some x) (e : str L x = p) : idV L x = findV L p := by
  unfold findV
  rw [F.idx_at hx e]
  unfold idV
  cases isAt L x <;> rfl
theorem idV_shape (L : List Str) (x : Span) : ∃ (k : Nat) (is : Bool), idV L x = .tuple #[.int .i64 (k : Nat), .bool is] := by
  unfold idV
  cases isAt L x
  · exact ⟨0, false, rfl⟩
  · exact ⟨x.f, true, rfl⟩
set_option maxHeartbeats 1000000 in
theorem lfind_any (w : World) (S E tb : Nat) (L : List Str) (ks : List (List Span)) (h : TR w S E tb L ks) (s : ByteArray) (hs : s.size ≤ maxLen) :
    Calls Try.prog 28 #[.pointer (some ⟨tb, 0, none⟩), .string s] w fun e w' => e = .returned (findV L (bytesOf s)) ∧ Below w.heap.size w w' := by
  have F := Lib.hid h.full
  have HW := Lib.hid (lwalk_any w S E tb L ks h s hs)
  unfold maxLen at hs
  have H := Lib.hid h; clear h
  have hlen := bytesOf_len s
  obtain ⟨n, hn⟩ : ∃ n, s.size = n := ⟨_, rfl⟩
  have hn' : ((s.size : Nat) : Int) = (n : Int) := by rw [hn]
  rw [hn] at hs hlen
  clear hn
  by_cases hbig : 256 < n
  · have hb0 : decide ((256 : Int) < (n : Int)) = true := by simp; omega
    have hv : findV L (bytesOf s) = .tuple #[.int .i64 0, .bool false] := by unfold findV; rw [long_none H.out.good (by omega)]
    rw [hv]
    clear hlen
    go_enter Try.func28, Try.ntmps28
    go_wp2
    go_ret2
    exact ⟨rfl, Below.refl _ _⟩
  · have hb0 : decide ((256 : Int) < (n : Int)) = false := by simp; omega
    clear hlen
    go_enter Try.func28, Try.ntmps28
    go_wp2_with fail
    refine HW.out.mono ?_
    rintro e w1 ⟨c, ok, rfl, h1, h2, hB⟩
    cases ok with
    | false =>
      have hv : findV L (bytesOf s) = .tuple #[.int .i64 0, .bool false] := by unfold findV; rw [F.out.idx_no (h2 rfl)]
      have HV := Lib.hid hv
      clear h1 h2 hv
      go_wp2
      go_ret2
      rw [HV.out]
      exact ⟨rfl, hB⟩
    | true =>
      obtain ⟨x, hx, e⟩ := h1 rfl
      have hid := lid_any w1 S E tb L ks (H.out.next hB) c x hx
      rw [idV_find F.out hx e] at hid
      obtain ⟨k, is, hv⟩ := idV_shape L x
      rw [idV_find F.out hx e] at hv
      rw [hv] at hid
      have HID := Lib.hid hid; have HV := Lib.hid hv
      clear h1 h2 hx e hid hv
      go_wp2_with fail
      refine HID.out.mono ?_
      rintro e w2 ⟨rfl, hq⟩
      have hB2 := hB.trans (qbel _ hq)
      clear hq
      go_wp2
      go_ret2
      rw [HV.out]
      exact ⟨rfl, hB2⟩
theorem lfind_nil (w : World) (s : ByteArray) : Calls Try.prog 28 #[.pointer none, .string s] w fun e w' => e = .returned (.tuple #[.int .i64 0, .bool false]) ∧ w = w' := by
  go_enter Try.func28, Try.ntmps28
  go_wp2
  go_ret2
  exact ⟨rfl, rfl⟩
end Go.Proofs.Ytpnkjfjkeoleaaa.LD

/-! louds: Text. -/
set_option linter.unusedVariables false
namespace Go.Proofs.Ytpnkjfjkeoleaaa.LD
open Go.RowKit HK
open Go.Proofs.Ytpnkjfjkeoleaaa.B (bytesOf bytesOf_len bytesOf_lt u8v wf_i64 brank_any bsel_any clamp clamp_nat rk SelAt Bv)

theorem zero256 : Try.zeroCells92 = ((List.replicate 256 0).map u8v).toArray := by kernel_rfl
theorem reach_zero {L : List Str} {ks : List (List Span)} (F : Full L ks) {p : Str} (h : Reach L ks p 0) : p = [] := by
  obtain ⟨x, hx, e⟩ := h
  rw [F.root] at hx; injection hx with hx; subst hx
  rw [← e]; simp [str, root]
theorem set_drop {l : List Nat} {a v : Nat} {t : List Nat} (ha : a < l.length) (h : l.drop (a + 1) = t) : (l.set a v).drop a = v :: t := by
  rw [List.drop_eq_getElem_cons (by simpa using ha), List.getElem_set_self, List.drop_set_of_lt (by omega), h]
theorem u8_cells {l : List Nat} {j v : Nat} (h : l[j]? = some v) : ((l.map u8v).toArray)[j]? = some (.int .u8 (v : Nat)) := by
  simp [h, u8v]

set_option maxHeartbeats 2000000 in
theorem ltext_in (w : World) (S E tb : Nat) (L : List Str) (ks : List (List Span)) (h : TR w S E tb L ks) (k : Nat) (hk : k < L.length) :
    Calls Try.prog 34 #[.pointer (some ⟨tb, 0, none⟩), .int .i64 (k : Nat)] w fun e w' => e = .returned (.tuple #[.string (bs (at_ L k)), .bool true]) ∧ Below w.heap.size w w' := by
  have F := Lib.hid h.full
  have H := Lib.hid h
  have hfew := F.out.few
  have hLf := F.out.good.few
  obtain ⟨b1, b2, A3', c3', b4, g4, A5, c5, hc0, hc1, hc2, hc3, hc4, hb1, hb2, hs3, hp, hs5⟩ := h.cells
  obtain ⟨i, hri, hnod⟩ := F.out.nod hk
  obtain ⟨g5, o5, rfl, _, _, h5⟩ := hs5.2 (by omega)
  have hc5 : w.cell? ⟨g5, o5 + k, none⟩ = some (.int .i64 (i : Nat)) := h5 k _ (by simpa using hnod)
  have hb0 : decide ((k : Int) < 0) = false := by simp
  have hb0' : decide ((L.length : Int) ≤ (k : Int)) = false := by simp; omega
  have hb0n : decide (L.length ≤ k) = false := by simp; omega
  have i1 : (0 : Int) ≤ (k : Int) := by omega
  have i2 : (k : Int) < (L.length : Int) := by omega
  have hlt5 := cell_lt hc5
  have hlt4 := cell_lt hc4
  have hlow := h.low
  have HC0 : Hid (∀ W, Below w.heap.size w W → W.cell? ⟨tb, 0, none⟩ = some (.pointer (some ⟨b1, 0, none⟩)) ∧ Bv W S E b1 (shapeOf ks).length (bitsN (shapeOf ks))) := Lib.hid (fun W hW =>
    ⟨(hW.cell (p := ⟨tb, 0, none⟩) (cell_lt hc0)).trans hc0, hb1.agree (Agree.of_below hW hlow)⟩)
  obtain ⟨A3, c3, hlabs⟩ := h.labs
  have HL := Lib.hid hlabs
  have hTl := F.out.good.lenAt hk
  have HTB : Hid (∀ v ∈ at_ L k, v < 256) := Lib.hid (F.out.good.byt _ (List.mem_of_getElem? (at_get hk)))
  obtain ⟨T, hT⟩ : ∃ T, at_ L k = T := ⟨_, rfl⟩
  rw [hT] at hTl HTB ⊢ hri
  obtain ⟨m, hm⟩ : ∃ m, T.length = m := ⟨_, rfl⟩
  rw [hm] at hTl
  have HM := Lib.hid hm
  have HRI := Lib.hid hri
  have hslen := Lib.hid (shape_len' F.out)
  have hfl := F.out.flat
  generalize hnf : ks.flatten.length = nf at hfl
  obtain ⟨Z, hZ⟩ : ∃ Z, Try.zeroCells92 = Z := ⟨_, rfl⟩
  clear hb1 hb2 hs3 hp h5 hnod hc1 hc3 hlabs hc0 hc2 hri hm hT
  clear h hs5
  have HRZ : Hid (Row (w.alloc (.cells Z 92)) w.heap.size 92 Z) := Lib.hid (Row.new w _ _)
  have HB0 : Hid (Below w.heap.size w (w.alloc (.cells Z 92))) := Lib.hid ((Below.refl _ _).alloc (Nat.le_refl _) _)
  go_enter Try.func34, Try.ntmps34
  go_wp2_with (go_at_call 24; refine (llen_any _ _ _ _ _ _ H.out).mono ?_; rintro e w' ⟨rfl, rfl⟩)
  obtain ⟨W0, hW0⟩ : ∃ W0, w.alloc (.cells Z 92) = W0 := ⟨_, rfl⟩
  rw [hW0] at HRZ HB0 ⊢
  clear hc4 hc5 hW0
  obtain ⟨Bw, hBw⟩ : ∃ Bw, w.heap.size = Bw := ⟨_, rfl⟩
  rw [hBw] at HRZ hlt4 hlt5 hlow ⊢
  have HBW := Lib.hid hBw
  have HZ := Lib.hid hZ
  clear hBw hZ
  go_loopw [7, 8] (fun u v wr => ∃ (a node d : Nat) (l : List Nat), u = .int .i64 a ∧ v = .int .i64 node ∧ d ≤ m ∧ a + m = 256 + d ∧ Hid (Reach L ks (T.take d) node) ∧ Hid (l.length = 256 ∧ l.drop a = T.drop d) ∧ Hid (Row wr Bw 92 (l.map u8v).toArray) ∧ Hid (Below w.heap.size w wr)) (fun _ v _ => (intOf v).toNat)
  case atStart => exact ⟨256, i, m, List.replicate 256 0, rfl, rfl, Nat.le_refl _, rfl, Lib.hid (by rw [← HM.out, List.take_length]; exact HRI.out), Lib.hid ⟨by simp, by rw [← HM.out, List.drop_length]; simp⟩, Lib.hid (by rw [← zero256, HZ.out]; exact HRZ.out), HB0⟩
  case round =>
    obtain ⟨a, node, d, l, rfl, rfl, hd, ham, HRE, HLL, HRW, HBB⟩ := hrel
    cases node with
    | zero =>
      have hd0 : d = 0 := by
        have h1 := congrArg List.length (reach_zero F.out HRE.out)
        rw [List.length_take, HM.out] at h1
        simp at h1
        omega
      subst hd0
      have hbz : decide ((0 : Int) < 0) = false := by decide
      have hsl : Sl wr wr.heap.size (some ⟨Bw, a, none⟩) (256 - a) (T.map fun v : Nat => Value.int .u8 (v : Int)) := by
        refine ⟨by rw [List.length_map, HM.out]; omega, fun _ => ⟨Bw, a, rfl, HRW.out.lt, fun j u hu => ?_⟩⟩
        rw [List.getElem?_map] at hu
        obtain ⟨v, hv, rfl⟩ := Option.map_eq_some_iff.1 hu
        rw [HRW.out.cell]
        apply u8_cells
        have h2 := HLL.out.2
        rw [List.drop_zero] at h2
        rw [← h2, List.getElem?_drop] at hv
        exact hv
      have hconv := fun c => conv_sl (P := Try.prog) (w := wr) 26 5 9 Try.underlying26 Try.underlying5 Try.underlying9 hsl c
      have i3 : (0 : Int) ≤ (a : Int) := by omega
      have i4 : (a : Int) ≤ 256 := by omega
      clear hsl
      go_wp2
      go_ret2
      exact ⟨rfl, HBB.out⟩
    | succ c =>
      have hnl := F.out.reach_lt HRE.out
      obtain ⟨d', rfl⟩ : ∃ d', d = d' + 1 := by
        refine ⟨d - 1, ?_⟩
        rcases Nat.eq_zero_or_pos d with h0 | h0
        · subst h0
          have h1 := HRE.out
          rw [List.take_zero] at h1
          have := F.out.same h1 F.out.reach0
          omega
        · omega
      have hTd : d' < T.length := by rw [HM.out]; omega
      have hts := take_snoc T d' hTd
      have hre := HRE.out
      rw [hts] at hre
      obtain ⟨i', hi', hr', hk'⟩ := F.out.up hre
      obtain ⟨xs, j, s, k1, k2, k3, k4⟩ := hk'
      have hj := (List.getElem?_eq_some_iff.1 k2).1
      have hi'n := (List.getElem?_eq_some_iff.1 k1).1
      have hlabv : lab L ks (c + 1) = T.getD d' 0 := ((F.out.kid_iff hi'n).1 ⟨xs, j, s, k1, k2, k3, k4⟩).2.2
      obtain ⟨hst, hrk⟩ := sel_true k1 hj
      rw [← k4] at hst
      have hpos := (shape_kid k1 hj).2
      have hposl := (List.getElem?_eq_some_iff.1 hpos).1
      obtain ⟨P, hP⟩ : ∃ P, pl ks i' + 1 + j = P := ⟨_, rfl⟩
      rw [hP] at hst hrk hposl
      have HST := Lib.hid hst; have HRK := Lib.hid hrk; have HPL := Lib.hid hposl
      have hPs : P < 1 + ks.length + ks.length := by rw [← hslen.out]; exact hposl
      obtain ⟨y, hy⟩ : ∃ y, T.getD d' 0 = y := ⟨_, rfl⟩
      rw [hy] at hlabv
      have HY := Lib.hid hy
      have HR' := Lib.hid hr'
      obtain ⟨a', rfl⟩ : ∃ a', a = a' + 1 := ⟨a - 1, by omega⟩
      obtain ⟨hcl, hlab⟩ := HL.out wr HBB.out
      obtain ⟨g, o, hA, hcm⟩ := hlab c hnl
      rw [hlabv] at hcm
      rw [hnf] at hcl
      have hyl : y < 256 := by rw [← hlabv]; exact F.out.lab_lt _
      have hal : a' < l.length := by rw [HLL.out.1]; omega
      have hca : wr.cell? ⟨Bw, a', none⟩ = some (.int .u8 (l[a'] : Nat)) := by
        rw [HRW.out.cell]; exact u8_cells (List.getElem?_eq_getElem hal)
      have hfa := HRW.out.frozen a'
      have HR2 := Lib.hid (HRW.out.put a' (.int .u8 (y : Nat)))
      have HB2 := Lib.hid (HBB.out.setCell (p := ⟨Bw, a', none⟩) (by show w.heap.size ≤ Bw; rw [HBW.out]; exact Nat.le_refl _) (.int .u8 (y : Nat)))
      obtain ⟨hd0, hbv0⟩ := HC0.out _ HB2.out
      have HBV := Lib.hid hbv0
      have hi1' : i' < c + 1 := hi'
      obtain ⟨la, hla⟩ : ∃ la, l[a'] = la := ⟨_, rfl⟩
      rw [hla] at hca
      have j1 : (0 : Int) ≤ (c : Int) := by omega
      have j2 : (c : Int) < (nf : Int) := by omega
      have j3 : (0 : Int) ≤ (a' : Int) := by omega
      have j4 : (a' : Int) < 256 := by omega
      have hHT := Lib.hid hts
      have hwi : IntKind.i64.wrap (i' : Int) = (i' : Int) := IntWalk.i64_in _ (by omega)
      clear hst hrk hposl hy hr' hlab hbv0 hla hlabv hre hts k1 k2 k3 k4 hP hpos hj
      go_wp2_with fail
      obtain ⟨W1, hW1⟩ : ∃ W1, wr.setCell ⟨Bw, a', none⟩ (.int .u8 (y : Nat)) = W1 := ⟨_, rfl⟩
      rw [hW1] at HR2 HB2 HBV hd0 ⊢
      have hz1 := HB2.out.size
      clear hW1 hca hfa hcm hcl
      refine wp_region_held_drew (S := fun w' => w'.cell? ⟨tb, 0, none⟩ = some (.pointer (some ⟨b1, 0, none⟩))) (by kernel_rfl) hd0 (fun hHeld => ?_)
      refine wpAnyH_take (i := 0) (oi := _) (v := ?_) rfl (by kernel_rfl) (by kernel_rfl) (by kernel_rfl) (fun _ _ _ h => h) (Or.inl ⟨by rfl, ?_⟩) hHeld ?_
      rotate_left
      · (intro w hSw; (try dsimp only at hSw); simp only [List.getElem_toArray, List.getElem_cons_zero]; go_simp; try with_reducible rfl)
      simp only [List.getElem_toArray, List.getElem_cons_zero, Act.put, List.setIfInBounds_toArray, List.set_cons_zero, List.set_cons_succ]
      refine wpAnyH_take (i := 1) (oi := _) (v := ?_) rfl (by kernel_rfl) (by kernel_rfl) (by kernel_rfl) (fun _ _ _ h => h) (Or.inl ⟨by rfl, ?_⟩) hHeld ?_
      rotate_left
      · (intro w hSw; (try dsimp only at hSw); simp only [List.getElem_toArray, List.getElem_cons_zero, List.getElem_cons_succ]; go_simp; try with_reducible rfl)
      simp only [List.getElem_toArray, List.getElem_cons_zero, List.getElem_cons_succ, Act.put, List.setIfInBounds_toArray, List.set_cons_zero, List.set_cons_succ]
      refine wpAnyH_take (i := 2) (oi := _) (v := ?_) rfl (by kernel_rfl) (by kernel_rfl) (by kernel_rfl) (fun _ _ _ h => h) (Or.inl ⟨by rfl, ?_⟩) hHeld ?_
      rotate_left
      · (intro w hSw; (try dsimp only at hSw); simp only [List.getElem_toArray, List.getElem_cons_zero, List.getElem_cons_succ]; go_simp; try with_reducible rfl)
      simp only [List.getElem_toArray, List.getElem_cons_zero, List.getElem_cons_succ, Act.put, List.setIfInBounds_toArray, List.set_cons_zero, List.set_cons_succ]
      refine wpAnyH_take (i := 3) (oi := _) (v := ?_) rfl (by kernel_rfl) (by kernel_rfl) (by kernel_rfl) (fun _ _ _ h => h) (Or.inl ⟨by rfl, ?_⟩) hHeld ?_
      rotate_left
      · (intro w hSw; (try dsimp only at hSw); simp only [List.getElem_toArray, List.getElem_cons_zero, List.getElem_cons_succ]; go_simp; try with_reducible rfl)
      simp only [List.getElem_toArray, List.getElem_cons_zero, List.getElem_cons_succ, Act.put, List.setIfInBounds_toArray, List.set_cons_zero, List.set_cons_succ]
      refine wpAnyH_take (i := 4) (oi := _) (v := ?_) rfl (by kernel_rfl) (by kernel_rfl) (by kernel_rfl) (fun _ _ _ h => h) (Or.inl ⟨by rfl, ?_⟩) hHeld ?_
      rotate_left
      · (intro w hSw; (try dsimp only at hSw); simp only [List.getElem_toArray, List.getElem_cons_zero, List.getElem_cons_succ]; go_simp; try with_reducible rfl)
      simp only [List.getElem_toArray, List.getElem_cons_zero, List.getElem_cons_succ, Act.put, List.setIfInBounds_toArray, List.set_cons_zero, List.set_cons_succ]
      refine wpAnyH_take (i := 5) (oi := _) (v := ?_) rfl (by kernel_rfl) (by kernel_rfl) (by kernel_rfl) (fun _ _ _ h => h) (Or.inl ⟨by rfl, ?_⟩) hHeld ?_
      rotate_left
      · (intro w hSw; (try dsimp only at hSw); simp only [List.getElem_toArray, List.getElem_cons_zero, List.getElem_cons_succ]; go_simp; try with_reducible rfl)
      simp only [List.getElem_toArray, List.getElem_cons_zero, List.getElem_cons_succ, Act.put, List.setIfInBounds_toArray, List.set_cons_zero, List.set_cons_succ]
      refine wpAnyH_take (i := 6) (oi := _) (v := ?_) rfl (by kernel_rfl) (by kernel_rfl) (by kernel_rfl) (fun _ _ _ h => h) (Or.inl ⟨by rfl, ?_⟩) hHeld ?_
      rotate_left
      · (intro w hSw; (try dsimp only at hSw); simp only [List.getElem_toArray, List.getElem_cons_zero, List.getElem_cons_succ]; go_simp; try with_reducible rfl)
      simp only [List.getElem_toArray, List.getElem_cons_zero, List.getElem_cons_succ, Act.put, List.setIfInBounds_toArray, List.set_cons_zero, List.set_cons_succ]
      refine wpAnyH_take (i := 7) (oi := _) (v := ?_) rfl (by kernel_rfl) (by kernel_rfl) (by kernel_rfl) (fun _ _ _ h => h) (Or.inl ⟨by rfl, ?_⟩) hHeld ?_
      rotate_left
      · (intro w hSw; (try dsimp only at hSw); simp only [List.getElem_toArray, List.getElem_cons_zero, List.getElem_cons_succ]; go_simp; try with_reducible rfl)
      simp only [List.getElem_toArray, List.getElem_cons_zero, List.getElem_cons_succ, Act.put, List.setIfInBounds_toArray, List.set_cons_zero, List.set_cons_succ]
      refine wpAnyH_take (i := 8) (oi := _) (v := ?_) rfl (by kernel_rfl) (by kernel_rfl) (by kernel_rfl) (fun _ _ _ h => h) (Or.inl ⟨by rfl, ?_⟩) hHeld ?_
      rotate_left
      · (intro w hSw; (try dsimp only at hSw); simp only [List.getElem_toArray, List.getElem_cons_zero, List.getElem_cons_succ]; go_simp; try with_reducible rfl)
      simp only [List.getElem_toArray, List.getElem_cons_zero, List.getElem_cons_succ, Act.put, List.setIfInBounds_toArray, List.set_cons_zero, List.set_cons_succ]
      refine wpAnyH_ready (rs := [9]) (by kernel_rfl) (by simp) ?_
      refine AllReadyH.cons (o := _) rfl (fun K hK => ?_) AllReadyH.nil
      go_simp
      refine (bsel_any W1.drew S E b1 _ _ HBV.out (by show E ≤ W1.heap.size; have := HBW.out; omega) true ((c + 1 : Nat) : Int) (wf_i64 _ (by omega))).mono ?_
      rintro e W2 ⟨z, rfl, hz, hB⟩
      obtain rfl := hz.same HST.out
      have HB3 := Lib.hid (HB2.out.drew.trans (hB.mono (show w.heap.size ≤ W1.heap.size from hz1)))
      have hd2 := (HC0.out _ HB3.out).1
      have HR3 := Lib.hid (HR2.out.below (w' := W2) (B := W1.heap.size) (show Below W1.heap.size W1 W2 from ⟨hB.os, hB.tape, hB.output, hB.size, hB.block⟩) HR2.out.lt)
      clear hz hB
      go_wp2_with fail
      refine hK.out _ _ (hd2) (fun hHeld => ?_)
      clear hK K
      try simp only [Act.put, List.setIfInBounds_toArray, List.set_cons_zero, List.set_cons_succ]
      refine wpAnyH_ready (rs := [10]) (by kernel_rfl) (by simp) ?_
      refine AllReadyH.cons (o := _) rfl (fun K hK => ?_) AllReadyH.nil
      go_simp
      refine (brank_any W2 S E b1 _ _ (HC0.out _ HB3.out).2 false (P : Nat) (wf_i64 _ (by omega))).mono ?_
      rw [clamp_nat _ _ (by have := HPL.out; omega), HRK.out]
      rintro e W3 ⟨rfl, q, rfl⟩
      go_wp2_with fail
      refine hK.out _ _ (hd2) (fun hHeld => ?_)
      clear hK K
      try simp only [Act.put, List.setIfInBounds_toArray, List.set_cons_zero, List.set_cons_succ]
      refine wpAnyH_take (i := 11) (oi := _) (v := ?_) rfl (by kernel_rfl) (by kernel_rfl) (by kernel_rfl) (fun _ _ _ h => h) (Or.inl ⟨by rfl, ?_⟩) hHeld ?_
      rotate_left
      · (intro w hSw; (try dsimp only at hSw); simp only [List.getElem_toArray, List.getElem_cons_zero, List.getElem_cons_succ]; go_simp; try with_reducible rfl)
      simp only [List.getElem_toArray, List.getElem_cons_zero, List.getElem_cons_succ, Act.put, List.setIfInBounds_toArray, List.set_cons_zero, List.set_cons_succ]
      refine wpAnyH_take (i := 12) (oi := _) (v := ?_) rfl (by kernel_rfl) (by kernel_rfl) (by kernel_rfl) (fun _ _ _ h => h) (Or.inl ⟨by rfl, ?_⟩) hHeld ?_
      rotate_left
      · (intro w hSw; (try dsimp only at hSw); simp only [List.getElem_toArray, List.getElem_cons_zero, List.getElem_cons_succ]; go_simp; try with_reducible rfl)
      simp only [List.getElem_toArray, List.getElem_cons_zero, List.getElem_cons_succ, Act.put, List.setIfInBounds_toArray, List.set_cons_zero, List.set_cons_succ]
      refine wpAnyH_done (by kernel_rfl) ?_ _
      go_wp2
      go_roundw
      case rel =>
        refine ⟨a', i', d', l.set a' y, by go_num, by go_num, by omega, by omega, HR', Lib.hid ⟨by rw [List.length_set]; exact HLL.out.1, ?_⟩, Lib.hid ?_, Lib.hid (bel_drewN HB3.out _)⟩
        · rw [set_drop (by rw [HLL.out.1]; omega) HLL.out.2, drop_cons T d' (by rw [HM.out]; omega), HY.out]
        · have h1 := HR3.out
          rw [show (l.map u8v).toArray.setIfInBounds a' (.int .u8 (y : Nat)) = ((l.set a' y).map u8v).toArray by simp [u8v]] at h1
          exact h1
      case measure => simp [intOf]; omega
theorem ltext_out (w : World) (S E tb : Nat) (L : List Str) (ks : List (List Span)) (h : TR w S E tb L ks) (k : Int) (hk : k < 0 ∨ (L.length : Int) ≤ k) :
    Calls Try.prog 34 #[.pointer (some ⟨tb, 0, none⟩), .int .i64 k] w fun e w' => e = .returned (.tuple #[.string ⟨#[]⟩, .bool false]) ∧ w = w' := by
  by_cases h0 : k < 0
  · have hb0 : decide (k < 0) = true := by simpa using h0
    go_enter Try.func34, Try.ntmps34
    go_wp2
    go_ret2
    exact ⟨rfl, rfl⟩
  · have hb0 : decide (k < 0) = false := by simpa using h0
    have hb1 : decide ((L.length : Int) ≤ k) = true := by simp; omega
    go_enter Try.func34, Try.ntmps34
    go_wp2_with (go_at_call 24; refine (llen_any _ _ _ _ _ _ h).mono ?_; rintro e w' ⟨rfl, rfl⟩)
    go_ret2
    exact ⟨rfl, rfl⟩
theorem ltext_nil (w : World) (k : Int) (hk : 0 ≤ k) : Calls Try.prog 34 #[.pointer none, .int .i64 k] w fun e w' => e = .returned (.tuple #[.string ⟨#[]⟩, .bool false]) ∧ w = w' := by
  have hb0 : decide (k < 0) = false := by simp; omega
  have hb1 : decide ((0 : Int) ≤ k) = true := by simpa using hk
  go_enter Try.func34, Try.ntmps34
  go_wp2_with (go_at_call 24; refine (llen_nil _).mono ?_; rintro e w' ⟨rfl, rfl⟩)
  go_ret2
  exact ⟨rfl, rfl⟩
end Go.Proofs.Ytpnkjfjkeoleaaa.LD

/-! louds: Prefixes. -/
set_option linter.unusedVariables false
namespace Go.Proofs.Ytpnkjfjkeoleaaa.LD
open Go.RowKit HK
open Go.Proofs.Ytpnkjfjkeoleaaa.B (bytesOf bytesOf_len bytesOf_lt u8v)

/-- The strings of a set that begin p, with at most m bytes: number and length. -/
def hitsTo (L : List Str) (p : Str) (m : Nat) : List (Nat × Nat) := (List.range m).filterMap fun i => (idx L (p.take (i + 1))).map fun k => (k, i + 1)
def hits (L : List Str) (p : Str) : List (Nat × Nat) := hitsTo L p p.length
def hitC (h : Nat × Nat) : List Value := [.int .i64 (h.1 : Nat), .int .i64 (h.2 : Nat)]
def hitsC (l : List (Nat × Nat)) : List Value := l.flatMap hitC
theorem hitsC_snoc (l : List (Nat × Nat)) (h : Nat × Nat) : hitsC (l ++ [h]) = hitsC l ++ hitC h := by simp [hitsC]
theorem hitsTo_some {L : List Str} {p : Str} {m k : Nat} (h : idx L (p.take (m + 1)) = some k) : hitsTo L p (m + 1) = hitsTo L p m ++ [(k, m + 1)] := by
  unfold hitsTo
  rw [List.range_succ, List.filterMap_append]
  simp [h]
theorem hitsTo_none {L : List Str} {p : Str} {m : Nat} (h : idx L (p.take (m + 1)) = none) : hitsTo L p (m + 1) = hitsTo L p m := by
  unfold hitsTo
  rw [List.range_succ, List.filterMap_append]
  simp [h]
theorem hitsTo_more {L : List Str} {p : Str} {m : Nat} : ∀ n, m ≤ n → (∀ j, m ≤ j → j < n → idx L (p.take (j + 1)) = none) → hitsTo L p n = hitsTo L p m
  | 0, h, _ => by rw [show m = 0 by omega]
  | n + 1, h, hn => by
    rcases Nat.eq_or_lt_of_le h with e | e
    · rw [e]
    · rw [hitsTo_none (hn n (by omega) (by omega)), hitsTo_more n (by omega) (fun j h1 h2 => hn j h1 (by omega))]
theorem hitsTo_len (L : List Str) (p : Str) : ∀ m, (hitsTo L p m).length ≤ m
  | 0 => by simp [hitsTo]
  | m + 1 => by
    have ih := hitsTo_len L p m
    cases h : idx L (p.take (m + 1)) with
    | none => rw [hitsTo_none h]; omega
    | some k => rw [hitsTo_some h, List.length_append]; simp; omega
theorem Full.hits_stop {L : List Str} {ks : List (List Span)} (F : Full L ks) {p : Str} {m : Nat} (hm : m < p.length) (h : ∀ d, ¬ Reach L ks (p.take (m + 1)) d) : hits L p = hitsTo L p m := by
  refine hitsTo_more _ (by omega) (fun j h1 h2 => F.idx_no (fun d hd => ?_))
  have e : p.take (j + 1) = p.take (m + 1) ++ (p.take (j + 1)).drop (m + 1) := by
    conv => lhs; rw [← List.take_append_drop (m + 1) (p.take (j + 1))]
    rw [List.take_take, Nat.min_eq_left (by omega)]
  rw [e] at hd
  exact F.no_more h d hd
theorem infoHit : (Try.prog.info? 48).map (fun i => (i.zero, i.size, i.bytes)) = some (some (.agg #[.int .i64 0, .int .i64 0]), 2, 16) := by kernel_rfl
theorem hit_new (W : World) (t : TypeId) (h : Nat × Nat) (j : Nat) (u : Value) (hu : (hitC h)[j]? = some u) : (W.alloc (.cells #[.int .i64 (h.1 : Nat), .int .i64 (h.2 : Nat)] t)).cell? ((⟨W.heap.size, 0, none⟩ : Addr).add j) = some u := by
  have hr : Row (W.alloc (.cells #[.int .i64 (h.1 : Nat), .int .i64 (h.2 : Nat)] t)) W.heap.size t #[.int .i64 (h.1 : Nat), .int .i64 (h.2 : Nat)] := Row.new _ _ _
  have : (⟨W.heap.size, 0, none⟩ : Addr).add j = ⟨W.heap.size, j, none⟩ := by unfold Addr.add; split <;> simp_all
  rw [this, hr.cell j, ← hu]
  simp [hitC]
theorem hit_one (h : Nat × Nat) : ∀ u ∈ hitC h, u.oneCell' = true := by
  intro u hu
  simp [hitC] at hu
  rcases hu with rfl | rfl <;> rfl
/-- What Prefixes says. -/
def PrefPost (w : World) (t : TypeId) (l : List (Nat × Nat)) (e : Ending) (w' : World) : Prop :=
  ∃ v, e = .returned v ∧ w'.ownsRow w.heap.size t 2 v l.length (hitsC l) ∧ Below w.heap.size w w'
theorem bel_app2 {B : Nat} {w wr w1 : World} {s n : Nat} {e : TypeId} {v : Value} {xs : List Value} {o : Obj} (hB : Below B w wr) (hw : B ≤ w.heap.size) (hown : wr.ownsRow B e s v n xs) (hg : (wr.alloc o).grownBy w1 v.ownBlock) : Below B w w1 :=
  (hB.alloc (Nat.le_trans hw hB.size) o).grown hg (by have := hB.size; simp; omega) (fun q e => (hown.lt q e).1)

set_option maxHeartbeats 4000000 in
theorem lpref_any (w : World) (S E tb : Nat) (L : List Str) (ks : List (List Span)) (h : TR w S E tb L ks) (s : ByteArray) (hs : s.size ≤ maxLen) :
    Calls Try.prog 30 #[.pointer (some ⟨tb, 0, none⟩), .string s] w (PrefPost w 48 (hits L (bytesOf s))) := by
  unfold maxLen at hs
  have F := Lib.hid h.full
  have H := Lib.hid h; clear h
  obtain ⟨i0, hi, hz0, hz1, hz2⟩ := info_parts infoHit
  obtain ⟨n, hn⟩ : ∃ n, s.size = n := ⟨_, rfl⟩
  have hn' : ((s.size : Nat) : Int) = (n : Int) := by rw [hn]
  rw [hn] at hs
  have HN : Hid ((bytesOf s).length = n) := Lib.hid (by rw [bytesOf_len, hn])
  clear hn
  obtain ⟨p, hp⟩ : ∃ p, bytesOf s = p := ⟨_, rfl⟩
  rw [hp] at HN ⊢
  have HP := Lib.hid hp; clear hp
  go_enter Try.func30, Try.ntmps30
  go_wp2
  go_loopw [5, 6, 15] (fun o v x wr => ∃ (node k : Nat), v = .int .i64 node ∧ x = .int .i64 k ∧ k ≤ n ∧ Hid (Reach L ks (p.take k) node) ∧ Hid (wr.ownsRow w.heap.size 48 2 o (hitsTo L p k).length (hitsC (hitsTo L p k))) ∧ Hid (TR wr S E tb L ks ∧ Below w.heap.size w wr)) (fun _ _ x _ => n - (intOf x).toNat)
  case atStart => exact ⟨0, 0, rfl, rfl, Nat.zero_le _, Lib.hid (by simpa using F.out.reach0), Lib.hid ⟨rfl, .inl ⟨rfl, rfl⟩⟩, Lib.hid ⟨H.out, Below.refl _ _⟩⟩
  case round =>
    obtain ⟨node, k, rfl, rfl, hk, HRE, HO, HW⟩ := hrel
    by_cases hlt : k < n
    · have hb0 : decide ((k : Int) < (n : Int)) = true := by simp; omega
      have hnl := F.out.reach_lt HRE.out
      have hk256 := F.out.reach_len HRE.out
      rw [List.length_take, HN.out, Nat.min_eq_left hk] at hk256
      have hlen : k < (bytesOf s).length := by rw [HP.out, HN.out]; exact hlt
      have hix := idx_str s k hlen
      have hbl : (bytesOf s).getD k 0 < 256 := by
        rw [List.getD_eq_getElem?_getD, List.getElem?_eq_getElem hlen]
        exact bytesOf_lt s _ (List.getElem_mem _)
      have hbk : (bytesOf s)[k]? = some ((bytesOf s).getD k 0) := by
        rw [List.getD_eq_getElem?_getD, List.getElem?_eq_getElem hlen]; rfl
      obtain ⟨b, hb⟩ : ∃ b, (bytesOf s).getD k 0 = b := ⟨_, rfl⟩
      rw [hb] at hix hbl hbk
      rw [HP.out] at hbk
      have HBK := Lib.hid hbk
      have j1 : (0 : Int) ≤ (k : Int) := by omega
      clear hb hbk hlen
      go_wp2_with fail
      refine (ldown_any wr S E tb L ks HW.out.1 node hnl b hbl).mono ?_
      rintro e w1 ⟨c, ok, rfl, hc, h1, h2, hB⟩
      have HI2 := Lib.hid (step_ok F.out HBK.out HRE.out h1 h2)
      have HW2 : Hid (TR w1 S E tb L ks ∧ Below w.heap.size w w1) := Lib.hid ⟨HW.out.1.next hB, HW.out.2.trans (hB.mono HW.out.2.size)⟩
      have HO2 : Hid (w1.ownsRow w.heap.size _ 2 _ _ _) := Lib.hid (own_at HO.out (fun g hg => hB.block g (HO.out.lt g hg).2))
      clear h1 h2 hB hix
      cases ok with
      | false =>
        have HST := Lib.hid (F.out.hits_stop (by rw [HN.out]; exact hlt) (HI2.out.2 rfl))
        go_wp2
        go_ret
        rw [HST.out]
        exact ⟨_, rfl, HO2.out, HW2.out.2⟩
      | true =>
        have HRE2 := Lib.hid (HI2.out.1 rfl)
        obtain ⟨x, hx, hsx⟩ := HRE2.out
        have hid := lid_any w1 S E tb L ks HW2.out.1 c x hx
        have hix2 := F.out.idx_at hx hsx
        have hlen2 := hitsTo_len L p k
        cases hat : isAt L x with
        | false =>
          rw [show idV L x = .tuple #[.int .i64 0, .bool false] by unfold idV; rw [hat]; rfl] at hid
          rw [hat] at hix2
          have HID := Lib.hid hid
          have HH := Lib.hid (hitsTo_none hix2)
          clear hid hix2 hx hsx hat
          go_wp2_with fail
          refine HID.out.mono ?_
          rintro e w2 ⟨rfl, q, rfl⟩
          have HO3 : Hid ((w1.drewN q).ownsRow w.heap.size _ 2 _ _ _) := HO2
          have HW3 : Hid (TR (w1.drewN q) S E tb L ks ∧ Below w.heap.size w (w1.drewN q)) := Lib.hid ⟨HW2.out.1.drewN q, bel_drewN HW2.out.2 q⟩
          go_wp2
          go_roundw
          case rel =>
            refine ⟨c, k + 1, rfl, by go_num, by omega, HRE2, Lib.hid ?_, HW3⟩
            rw [HH.out]; exact HO3.out
          case measure => simp [intOf]; omega
        | true =>
          rw [show idV L x = .tuple #[.int .i64 (x.f : Nat), .bool true] by unfold idV; rw [hat]; rfl] at hid
          rw [hat, if_pos rfl] at hix2
          obtain ⟨y, hy⟩ : ∃ y, x.f = y := ⟨_, rfl⟩
          rw [hy] at hid hix2
          have HID := Lib.hid hid
          have HH := Lib.hid (hitsTo_some hix2)
          clear hid hix2 hx hsx hat hy
          obtain ⟨M, hM⟩ : ∃ M, (hitsTo L p k).length = M := ⟨_, rfl⟩
          rw [hM] at hlen2 HO2
          have HM := Lib.hid hM; clear hM
          go_wp2_with fail
          refine HID.out.mono ?_
          rintro e w2 ⟨rfl, q, rfl⟩
          have HO3 : Hid ((w1.drewN q).ownsRow w.heap.size _ 2 _ _ _) := HO2
          have hB3 : Below w.heap.size w (w1.drewN q) := bel_drewN HW2.out.2 q
          have HT3 := Lib.hid (HW2.out.1.drewN q)
          obtain ⟨w3, hw3⟩ : ∃ w3, w1.drewN q = w3 := ⟨_, rfl⟩
          rw [hw3] at HO3 hB3 HT3 ⊢
          have hs3 := hB3.size
          have HB3 := Lib.hid hB3
          clear hw3 hB3
          go_wp2_with (at_builtin; refine wpList_append_own _ rfl _ _ 43 rfl w.heap.size 48 i0 _ 2 16 Try.underlying43 hi hz0 hz1 hz2 rfl (by decide) _ _ _ rfl (HO3.out.alloc _) ⟨w3.heap.size, 0, none⟩ 1 1 (hitC (y, k + 1)) rfl rfl (hit_new _ _ _) (hit_one _) (by unfold maxLen; omega) (by omega) (by simp; omega) ?_; intro v' w4 hown4 hgrow4 _)
          have HB4 := Lib.hid (bel_app2 HB3.out (Nat.le_refl _) HO3.out hgrow4)
          have HT4 := Lib.hid (H.out.next HB4.out)
          have HO4 := Lib.hid hown4; clear hown4 hgrow4
          go_wp2
          go_roundw
          case rel =>
            refine ⟨c, k + 1, rfl, by go_num, by omega, HRE2, Lib.hid ?_, Lib.hid ⟨HT4.out, HB4.out⟩⟩
            rw [HH.out, List.length_append, HM.out, hitsC_snoc]
            exact HO4.out
          case measure => simp [intOf]; omega
    · obtain rfl : k = n := by omega
      have hb0 : decide ((k : Int) < (k : Int)) = false := by simp
      have HE : Hid (hits L p = hitsTo L p k) := Lib.hid (by unfold hits; rw [HN.out])
      go_wp2
      go_ret
      rw [HE.out]
      exact ⟨_, rfl, HO.out, HW.out.2⟩
theorem lpref_nil (w : World) (s : ByteArray) : Calls Try.prog 30 #[.pointer none, .string s] w fun e w' => e = .returned (.slice none 0 0) ∧ w = w' := by
  go_enter Try.func30, Try.ntmps30
  go_wp2
  go_ret
  exact ⟨rfl, rfl⟩
end Go.Proofs.Ytpnkjfjkeoleaaa.LD
