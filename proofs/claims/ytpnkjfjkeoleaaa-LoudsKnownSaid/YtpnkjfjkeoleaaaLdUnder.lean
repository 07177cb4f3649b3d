/- louds: Under. -/
import Derived.Test.YtpnkjfjkeoleaaaGLdW
set_option linter.unusedVariables false
set_option maxRecDepth 100000
namespace Go.Proofs.Ytpnkjfjkeoleaaa.LD
open Go.RowKit HK
open Go.Proofs.Ytpnkjfjkeoleaaa.B (bytesOf bytesOf_len bytesOf_lt u8v wf_i64 bget_any getB Bv)

theorem Chain.last {L : List Str} {d T : Nat} : ∀ {xs : List Span} {i e : Nat} {s : Span}, Chain L d T i e xs → xs[xs.length - 1]? = some s → s.t = e
  | [], i, e, s, _, h => by simp at h
  | [x], i, e, s, hc, h => by
    simp at h
    subst h
    exact hc.2.2
  | x :: y :: xs, i, e, s, hc, h => Chain.last (xs := y :: xs) hc.2.2 (by simpa using h)
section
variable {L : List Str} {ks : List (List Span)} (F : Full L ks)
include F
theorem Full.first {i : Nat} {x : Span} (hx : (allOf L ks)[i]? = some x) (hne : x.f < x.t) (hat : isAt L x = false) :
    ∃ y, (allOf L ks)[1 + off ks i]? = some y ∧ y.f = x.f ∧ y.f < y.t ∧ i < 1 + off ks i ∧ 1 + off ks i < ks.length := by
  obtain ⟨x', xs, h1, h2, h3, h4, h5, h6, h7, h8⟩ := F.node (F.lt hx)
  rw [hx] at h1; injection h1 with h1; subst h1
  have hst : start L x = x.f := by unfold start; rw [hat]; rfl
  cases xs with
  | nil =>
    have h9 : start L x = x.t := h3
    omega
  | cons y ys =>
    have h9 := h8 0 (by simp)
    rw [Nat.add_zero] at h9
    have h10 := h3.1
    have h11 := h3.2.1.lt
    exact ⟨y, by simpa using h9, by omega, h11, by omega, by simp at h6; omega⟩
theorem Full.last {i : Nat} {x : Span} (hx : (allOf L ks)[i]? = some x) (hk : off ks i < off ks (i + 1)) :
    ∃ y, (allOf L ks)[off ks (i + 1)]? = some y ∧ y.t = x.t ∧ y.f < y.t ∧ i < off ks (i + 1) ∧ off ks (i + 1) < ks.length := by
  obtain ⟨x', xs, h1, h2, h3, h4, h5, h6, h7, h8⟩ := F.node (F.lt hx)
  rw [hx] at h1; injection h1 with h1; subst h1
  have hl : xs.length - 1 < xs.length := by omega
  have h9 := h8 _ hl
  have h10 := List.getElem?_eq_getElem hl
  have h11 := Chain.last h3 h10
  have h12 := (Chain.mem h3 _ (List.mem_of_getElem? h10)).1.lt
  rw [show 1 + off ks i + (xs.length - 1) = off ks (i + 1) by omega] at h9
  exact ⟨_, h9.trans h10, h11, h12, by omega, by omega⟩
theorem Full.leaf {i : Nat} {x : Span} (hx : (allOf L ks)[i]? = some x) (hne : x.f < x.t) (hk : off ks i = off ks (i + 1)) : isAt L x = true ∧ x.t = x.f + 1 := by
  obtain ⟨x', xs, h1, h2, h3, h4, h5, h6, h7, h8⟩ := F.node (F.lt hx)
  rw [hx] at h1; injection h1 with h1; subst h1
  have : xs = [] := List.eq_nil_of_length_eq_zero (by omega)
  subst this
  have h9 : start L x = x.t := h3
  unfold start at h9
  cases hat : isAt L x with
  | true => rw [hat, if_pos rfl] at h9; exact ⟨rfl, h9.symm⟩
  | false => rw [hat] at h9; simp at h9; omega
end
theorem range_take_snoc (a j : Nat) : (List.range' a j) ++ [a + j] = List.range' a (j + 1) := by
  rw [List.range'_concat]; simp
def intV (v : Nat) : Value := .int .i64 (v : Nat)
/-- What Under says. -/
def UnderPost (w : World) (l : List Nat) (e : Ending) (w' : World) : Prop :=
  ∃ v, e = .returned v ∧ w'.ownsRow w.heap.size 3 1 v l.length (l.map intV) ∧ Below w.heap.size w w'
theorem under_nil (w : World) (w' : World) (hB : Below w.heap.size w w') : UnderPost w [] (.returned (.slice none 0 0)) w' := ⟨_, rfl, ⟨rfl, .inl ⟨rfl, rfl⟩⟩, hB⟩
theorem under_long {L : List Str} (hg : Good L) {p : Str} (h : 256 < p.length) : under L p = [] := by
  unfold under
  rw [List.filter_eq_nil_iff]
  intro k hk hp
  rw [List.mem_range] at hk
  unfold pre at hp
  rw [Bool.and_eq_true, decide_eq_true_eq] at hp
  have := (hg.lenAt hk).2
  omega

set_option maxHeartbeats 4000000 in
theorem lunder_nilout (w : World) (S E tb : Nat) (L : List Str) (ks : List (List Span)) (h : TR w S E tb L ks) (s : ByteArray) (hs : s.size ≤ maxLen) (most : Int) (hm : (Lit.int .i64 most).wf = true)
    (ho : L.length = 0 ∨ 256 < s.size ∨ most < 1) :
    Calls Try.prog 19 #[.pointer (some ⟨tb, 0, none⟩), .string s, .int .i64 most] w fun e w' => e = .returned (.slice none 0 0) ∧ w = w' := by
  unfold maxLen at hs
  have H := Lib.hid h; clear h
  obtain ⟨n, hn⟩ : ∃ n, s.size = n := ⟨_, rfl⟩
  have hn' : ((s.size : Nat) : Int) = (n : Int) := by rw [hn]
  rw [hn] at hs ho
  clear hn
  have hc := llen_any w S E tb L ks H.out
  have HC := Lib.hid hc; clear hc
  by_cases h0 : L.length = 0
  · rw [h0] at HC
    go_enter Try.func19, Try.ntmps19
    go_wp2_with (go_at_call 24; refine HC.out.mono ?_; rintro e w' ⟨rfl, rfl⟩)
    go_ret
    exact ⟨rfl, rfl⟩
  · have hb0 : ((L.length : Int) == 0) = false := by rw [beq_eq_false_iff_ne]; omega
    by_cases h1 : 256 < n
    · have hb1 : decide ((256 : Int) < (n : Int)) = true := by simp; omega
      go_enter Try.func19, Try.ntmps19
      go_wp2_with (go_at_call 24; refine HC.out.mono ?_; rintro e w' ⟨rfl, rfl⟩)
      go_ret
      exact ⟨rfl, rfl⟩
    · have hb1 : decide ((256 : Int) < (n : Int)) = false := by simp; omega
      have hb2 : decide (most < 1) = true := by simp; omega
      go_enter Try.func19, Try.ntmps19
      go_wp2_with (go_at_call 24; refine HC.out.mono ?_; rintro e w' ⟨rfl, rfl⟩)
      go_ret
      exact ⟨rfl, rfl⟩

set_option maxHeartbeats 4000000 in
theorem lunder_in (w : World) (S E tb : Nat) (L : List Str) (ks : List (List Span)) (h : TR w S E tb L ks) (s : ByteArray) (hs : s.size ≤ maxLen) (most : Nat) (hm : (Lit.int .i64 (most : Nat)).wf = true)
    (ho : 0 < L.length) (ho2 : s.size ≤ 256) (ho3 : 1 ≤ most) :
    Calls Try.prog 19 #[.pointer (some ⟨tb, 0, none⟩), .string s, .int .i64 (most : Nat)] w (UnderPost w ((under L (bytesOf s)).take most)) := by
  have F := Lib.hid h.full
  have hfew := F.out.few
  have hLf := F.out.good.few
  have HWK := Lib.hid (lwalk_any w S E tb L ks h s hs)
  have H := Lib.hid h
  have hlow := h.low
  obtain ⟨b1, b2, A3, c3, b4, g4, A5, c5, hc0, hc1, hc2, hc3, hc4, hb1, hb2, hs3, hp, hs5⟩ := h.cells
  have HC1 : Hid (∀ W, Below w.heap.size w W → W.cell? ⟨tb, 1, none⟩ = some (.pointer (some ⟨b2, 0, none⟩)) ∧ Bv W S E b2 ks.length (bitsN ((allOf L ks).map (isAt L)))) := Lib.hid (fun W hW =>
    ⟨(hW.cell (p := ⟨tb, 1, none⟩) (cell_lt hc1)).trans hc1, hb2.agree (Agree.of_below hW hlow)⟩)
  clear hc0 hc1 hc2 hc3 hc4 hb1 hb2 hs3 hp hs5 h
  obtain ⟨i0, hi, hz0, hz1, hz2⟩ := info_parts B.infoInt
  obtain ⟨n, hn⟩ : ∃ n, s.size = n := ⟨_, rfl⟩
  have hn' : ((s.size : Nat) : Int) = (n : Int) := by rw [hn]
  rw [hn] at hs ho2
  clear hn
  have hmr := rg_i64 _ hm
  have HC := Lib.hid (llen_any w S E tb L ks H.out)
  have hb0 : ((L.length : Int) == 0) = false := by rw [beq_eq_false_iff_ne]; omega
  have hb1 : decide ((256 : Int) < (n : Int)) = false := by simp; omega
  have hb2 : decide ((most : Int) < 1) = false := by simp; omega
  go_enter Try.func19, Try.ntmps19
  go_wp2_with (go_at_call 24; refine HC.out.mono ?_; rintro e w' ⟨rfl, rfl⟩)
  refine HWK.out.mono ?_
  rintro e w1 ⟨c, ok, rfl, h1, h2, hB⟩
  cases ok with
  | false =>
    have HU := Lib.hid (F.out.under_no (h2 rfl))
    clear h1 h2
    go_wp2
    go_ret
    rw [HU.out, List.take_nil]
    exact under_nil w _ hB
  | true =>
    obtain ⟨x, hx, hsx⟩ := h1 rfl
    have HU := Lib.hid (F.out.under_at hx hsx)
    have hne : x.f < x.t := by
      rcases (F.out.ok hx).ne with h3 | h3
      · exact h3
      · have := h3.2.2.2; rw [this] at ho; simp at ho
    have hxt := (F.out.ok hx).le
    have HX := Lib.hid hx
    have HB1 := Lib.hid hB
    clear h1 h2 hB hx hsx
    obtain ⟨xf, hxf⟩ : ∃ xf, x.f = xf := ⟨_, rfl⟩
    obtain ⟨xt, hxt'⟩ : ∃ xt, x.t = xt := ⟨_, rfl⟩
    rw [hxf, hxt'] at HU hne
    rw [hxt'] at hxt
    have HXF := Lib.hid hxf; have HXT := Lib.hid hxt'
    clear hxf hxt'
    go_wp2
    go_loopw [9] (fun v wr => ∃ (j : Nat), v = .int .i64 j ∧ j < ks.length ∧ Hid (∃ y, (allOf L ks)[j]? = some y ∧ y.f = xf ∧ y.f < y.t) ∧ Hid (Below w.heap.size w wr)) (fun v _ => ks.length - (intOf v).toNat)
    case atStart => exact ⟨c, rfl, F.out.lt HX.out, Lib.hid ⟨x, HX.out, HXF.out, by rw [HXF.out, HXT.out]; exact hne⟩, HB1⟩
    case round =>
      obtain ⟨j, rfl, hj, HY, HBW⟩ := hrel
      obtain ⟨y, hy, hyf, hyt⟩ := HY.out
      obtain ⟨hd1, hbv⟩ := HC1.out _ HBW.out
      have hget := bget_any wr S E b2 _ _ hbv (j : Nat) (wf_i64 _ (by omega))
      have hgv : getB (bitsN ((allOf L ks).map (isAt L))) ks.length (j : Nat) = isAt L y := by
        unfold getB
        rw [Int.toNat_natCast, is_at hy]
        simp [hj]
      rw [hgv] at hget
      have HG := Lib.hid hget
      clear hget hgv hbv
      cases hat : isAt L y with
      | false =>
        rw [hat] at HG
        obtain ⟨y2, g1, g2, g3, g4, g5⟩ := F.out.first hy hyt hat
        obtain ⟨c2, hc2⟩ : ∃ c2, 1 + off ks j = c2 := ⟨_, rfl⟩
        have HK : Hid (∀ q, Calls Try.prog 47 #[.pointer (some ⟨tb, 0, none⟩), .int .i64 (j : Nat)] (wr.drewN q) fun e w' => e = .returned (.tuple #[.int .i64 (c2 : Nat), .int .i64 (1 + off ks (j + 1) : Nat)]) ∧ Below wr.heap.size wr w') := Lib.hid (fun q => by
          rw [← hc2]
          refine (lkids_any _ S E tb L ks (H.out.next (bel_drewN HBW.out q)) j hj).mono ?_
          rintro e w' ⟨rfl, hb⟩
          exact ⟨rfl, (qbel (w' := wr.drewN q) _ ⟨q, rfl⟩).trans hb⟩)
        rw [hc2] at g1 g4 g5
        have HY2 : Hid (∃ y, (allOf L ks)[c2]? = some y ∧ y.f = xf ∧ y.f < y.t) := Lib.hid ⟨y2, g1, by rw [g2, hyf], g3⟩
        clear hy hyf hyt hat g1 g2 g3 hc2
        go_wp2_with fail
        refine HG.out.mono ?_
        rintro e w2 ⟨rfl, q, rfl⟩
        go_wp2_with fail
        refine (HK.out q).mono ?_
        rintro e w3 ⟨rfl, hB3⟩
        have HB3 := Lib.hid (HBW.out.trans (hB3.mono HBW.out.size))
        clear hB3
        go_wp2
        go_roundw
        case rel => exact ⟨c2, rfl, g5, HY2, HB3⟩
        case measure => simp [intOf]; omega
      | true =>
        rw [hat] at HG
        have hid1 : idV L y = .tuple #[.int .i64 (xf : Nat), .bool true] := by unfold idV; rw [hat, hyf]; rfl
        have HID1 : Hid (∀ W, Below w.heap.size w W → Calls Try.prog 48 #[.pointer (some ⟨tb, 0, none⟩), .int .i64 (j : Nat)] W fun e w' => e = .returned (.tuple #[.int .i64 (xf : Nat), .bool true]) ∧ ∃ q, w' = W.drewN q) := Lib.hid (fun W hW => by
          rw [← hid1]; exact lid_any W S E tb L ks (H.out.next hW) j y hy)
        clear hy hyf hyt hat hid1 HY
        go_wp2_with fail
        refine HG.out.mono ?_
        rintro e w2 ⟨rfl, q, rfl⟩
        have HB2 := Lib.hid (bel_drewN HBW.out q)
        obtain ⟨w2, hw2⟩ : ∃ w2, wr.drewN q = w2 := ⟨_, rfl⟩
        rw [hw2] at HB2 ⊢
        clear hw2 hd1 HG HBW
        go_wp2
        go_loopw [10] (fun v wr => ∃ (l : Nat), v = .int .i64 l ∧ l < ks.length ∧ Hid (∃ y, (allOf L ks)[l]? = some y ∧ y.t = xt ∧ y.f < y.t) ∧ Hid (Below w.heap.size w wr)) (fun v _ => ks.length - (intOf v).toNat)
        case atStart => exact ⟨c, rfl, F.out.lt HX.out, Lib.hid ⟨x, HX.out, HXT.out, by rw [HXF.out, HXT.out]; exact hne⟩, HB2⟩
        case round =>
          obtain ⟨l, rfl, hl, HY, HBW⟩ := hrel
          obtain ⟨y, hy, hyt, hyl⟩ := HY.out
          have HK := Lib.hid (lkids_any _ S E tb L ks (H.out.next HBW.out) l hl)
          have hole : off ks l ≤ off ks (l + 1) := off_le (by omega)
          have holm : 1 + off ks (l + 1) ≤ ks.length := by
            obtain ⟨_, _, _, _, _, _, _, _, h7, _⟩ := F.out.node hl
            exact h7
          by_cases hkk : off ks l = off ks (l + 1)
          · obtain ⟨k1, k2⟩ := F.out.leaf hy hyl hkk
            have hid1 : idV L y = .tuple #[.int .i64 (y.f : Nat), .bool true] := by unfold idV; rw [k1]; rfl
            have HID2 : Hid (∀ W, Below w.heap.size w W → Calls Try.prog 48 #[.pointer (some ⟨tb, 0, none⟩), .int .i64 (l : Nat)] W fun e w' => e = .returned (.tuple #[.int .i64 (y.f : Nat), .bool true]) ∧ ∃ q, w' = W.drewN q) := Lib.hid (fun W hW => by
              rw [← hid1]; exact lid_any W S E tb L ks (H.out.next hW) l y hy)
            obtain ⟨z, hz⟩ : ∃ z, y.f = z := ⟨_, rfl⟩
            rw [hz] at HID2 k2
            rw [hyt] at k2
            rw [← hkk] at HK
            have hzx : z + 1 = xt := k2.symm
            obtain ⟨c2, hc2⟩ : ∃ c2, 1 + off ks l = c2 := ⟨_, rfl⟩
            rw [hc2] at HK
            have hc2b : c2 ≤ ks.length := by omega
            have HZX := Lib.hid hzx
            have hzn : z < L.length := by omega
            have hxz : xf ≤ z := by omega
            clear hid1 hy hyt hyl k1 k2 hz HY hkk hole holm hc2 hzx hxt hne
            go_wp2_with fail
            refine HK.out.mono ?_
            rintro e w3 ⟨rfl, hB3⟩
            have HB3 := Lib.hid (HBW.out.trans (hB3.mono HBW.out.size))
            clear hB3
            go_wp2_with fail
            refine (HID1.out _ HB3.out).mono ?_
            rintro e w4 ⟨rfl, q4, rfl⟩
            go_wp2_with fail
            refine (HID2.out _ (bel_drewN HB3.out q4)).mono ?_
            rintro e w5 ⟨rfl, q5, rfl⟩
            have HB5 := Lib.hid (bel_drewN (bel_drewN HB3.out q4) q5)
            obtain ⟨w5, hw5⟩ : ∃ w5, (w3.drewN q4).drewN q5 = w5 := ⟨_, rfl⟩
            rw [hw5] at HB5 ⊢
            clear hw5
            go_wp2
            go_loopw [17, 18] (fun o v wr => ∃ (a : Nat), v = .int .i64 (xf + a : Nat) ∧ xf + a ≤ z + 1 ∧ a ≤ most ∧ Hid (wr.ownsRow w.heap.size 3 1 o a ((List.range' xf a).map intV)) ∧ Hid (Below w.heap.size w wr)) (fun _ v _ => z + 1 - (intOf v).toNat)
            case atStart => exact ⟨0, by simp, by omega, by omega, Lib.hid ⟨rfl, .inl ⟨rfl, rfl⟩⟩, HB5⟩
            case round =>
              obtain ⟨a, rfl, ha1, ha2, HO, HBR⟩ := hrel
              obtain ⟨Ao, co, rfl, _, _⟩ := own_shape HO.out
              have hsr := HBR.out.size
              obtain ⟨v, hv⟩ : ∃ v, xf + a = v := ⟨_, rfl⟩
              have HV := Lib.hid hv
              have ha3 : a ≤ 20001 := by omega
              rw [hv] at ha1 ⊢
              clear hv
              by_cases hle : v ≤ z
              · have hq1 : decide ((v : Int) ≤ (z : Int)) = true := by simp; omega
                by_cases hmo : a < most
                · have hq2 : decide ((a : Int) < (most : Int)) = true := by simp; omega
                  go_wp2_with (at_builtin; refine wpList_append_own _ rfl _ _ 31 rfl w.heap.size 3 i0 _ 1 8 Try.underlying31 hi hz0 hz1 hz2 rfl (by decide) _ _ _ rfl (HO.out.alloc _) ⟨wr.heap.size, 0, none⟩ 1 1 [_] rfl rfl (cell_one_new _ _ _) one_oneCell (by unfold maxLen; omega) (by omega) (by simp; omega) ?_; intro v' w6 hown6 hgrow6 _)
                  have HB6 := Lib.hid (bel_app HBR.out (Nat.le_refl _) HO.out hgrow6)
                  have HO6 := Lib.hid hown6; clear hown6 hgrow6
                  go_wp2
                  go_roundw
                  case rel =>
                    refine ⟨a + 1, by have := HV.out; go_num, by have := HV.out; omega, by omega, Lib.hid ?_, HB6⟩
                    rw [← range_take_snoc, List.map_append, HV.out]
                    exact HO6.out
                  case measure => simp [intOf]; omega
                · have hq2 : decide ((a : Int) < (most : Int)) = false := by simp; omega
                  obtain rfl : a = most := by omega
                  go_wp2
                  go_ret
                  have hzx := HZX.out
                  have hv := HV.out
                  have e : (List.range' xf (xt - xf)).take a = List.range' xf a := by
                    rw [List.take_range'_of_length_ge (by omega)]
                  rw [HU.out, e]
                  refine ⟨_, rfl, ?_, HBR.out⟩
                  rw [List.length_range']
                  exact HO.out
              · have hq1 : decide ((v : Int) ≤ (z : Int)) = false := by simp; omega
                go_wp2
                go_ret
                have hzx := HZX.out
                have hv := HV.out
                have e : (List.range' xf (xt - xf)).take most = List.range' xf a := by
                  rw [List.take_of_length_le (by rw [List.length_range']; omega)]
                  congr 1; omega
                rw [HU.out, e]
                refine ⟨_, rfl, ?_, HBR.out⟩
                rw [List.length_range']
                exact HO.out
          · obtain ⟨y2, g1, g2, g3, g4, g5⟩ := F.out.last hy (by omega : off ks l < off ks (l + 1))
            obtain ⟨c2, hc2⟩ : ∃ c2, off ks (l + 1) = c2 := ⟨_, rfl⟩
            rw [hc2] at HK g1 g4 g5 holm hkk hole
            obtain ⟨c1, hc1⟩ : ∃ c1, off ks l = c1 := ⟨_, rfl⟩
            rw [hc1] at HK hkk hole
            have HY2 : Hid (∃ y, (allOf L ks)[c2]? = some y ∧ y.t = xt ∧ y.f < y.t) := Lib.hid ⟨y2, g1, by rw [g2, hyt], g3⟩
            have hb3 : ((1 + (c1 : Int)) == (1 + (c2 : Int))) = false := by simp; omega
            clear hy hyt hyl g1 g2 g3 hc1 hc2 HY
            go_wp2_with fail
            refine HK.out.mono ?_
            rintro e w3 ⟨rfl, hB3⟩
            have HB3 := Lib.hid (HBW.out.trans (hB3.mono HBW.out.size))
            clear hB3
            go_wp2
            go_roundw
            case rel => exact ⟨c2, by go_num, g5, HY2, HB3⟩
            case measure => simp [intOf]; omega
theorem lunder_none (w : World) (s : ByteArray) (most : Int) : Calls Try.prog 19 #[.pointer none, .string s, .int .i64 most] w fun e w' => e = .returned (.slice none 0 0) ∧ w = w' := by
  go_enter Try.func19, Try.ntmps19
  go_wp2_with (go_at_call 24; refine (llen_nil _).mono ?_; rintro e w' ⟨rfl, rfl⟩)
  go_ret
  exact ⟨rfl, rfl⟩
end Go.Proofs.Ytpnkjfjkeoleaaa.LD
