/- louds: the law LoudsOwn. -/
import Derived.Test.YtpnkjfjkeoleaaaWLdOne
set_option linter.unusedVariables false
set_option maxRecDepth 100000
namespace Go.Proofs.Ytpnkjfjkeoleaaa.LD
open Go.RowKit HK
open Go.Proofs.Ytpnkjfjkeoleaaa.B (bytesOf bytesOf_len bytesOf_lt PutInv)

/-- What stays while other blocks are written. -/
structure Kept (w W0 : World) (z1 z2 z3 z4 z5 : Nat) (W : World) : Prop where
  l : Agree 0 z1 W0 W
  t : Agree z2 z3 W0 W
  u : Agree z4 z5 W0 W
  bel : Below w.heap.size w W
  sz : z5 ≤ W.heap.size
section
variable {w W0 W W' : World} {z1 z2 z3 z4 z5 : Nat} (h : Kept w W0 z1 z2 z3 z4 z5 W) (h1 : z1 ≤ z2) (h2 : z2 ≤ z3) (h3 : z3 ≤ z4) (h4 : z4 ≤ z5)
include h h1 h2 h3 h4
theorem Kept.next (hb : Below W.heap.size W W') : Kept w W0 z1 z2 z3 z4 z5 W' :=
  ⟨h.l.trans (Agree.of_below hb (by have := h.sz; omega)), h.t.trans (Agree.of_below hb (by have := h.sz; omega)), h.u.trans (Agree.of_below hb (by have := h.sz; omega)), h.bel.trans (hb.mono h.bel.size), by have := hb.size; have := h.sz; omega⟩
theorem Kept.grown {row : Option Nat} (hg : W.grownBy W' row) (hr : ∀ q, row = some q → w.heap.size ≤ q ∧ (q < z2 ∧ z1 ≤ q ∨ z3 ≤ q ∧ q < z4 ∨ z5 ≤ q)) : Kept w W0 z1 z2 z3 z4 z5 W' := by
  have hs := h.sz
  refine ⟨h.l.trans (Agree.of_grown hg (by omega) (fun q e => ?_)), h.t.trans (Agree.of_grown hg (by omega) (fun q e => ?_)), h.u.trans (Agree.of_grown hg (by omega) (fun q e => ?_)), h.bel.grown hg h.bel.size (fun q e => (hr q e).1), by have := hg.size; omega⟩
  · have := (hr q e).2; omega
  · have := (hr q e).2; omega
  · have := (hr q e).2; omega
end
/-- The copy whose strings are overwritten one after the other. -/
def Over (W0 wr : World) (base : Nat) (v : Value) (m k : Nat) (ss : List ByteArray) : Prop :=
  (∃ ys : List Value, (∀ j, k ≤ j → ys[j]? = (ss.map Value.string)[j]?) ∧ ys.length = m ∧ wr.ownsRow base 9 1 v m ys) ∧ W0.grownBy wr v.ownBlock
theorem Over.at_ {W0 wr : World} {base : Nat} {A : Option Addr} {m c k : Nat} {ss : List ByteArray} {s : ByteArray} (h : Over W0 wr base (.slice A m c) m k ss) (hk : k < m) (hs : ss[k]? = some s) :
    ∃ g, A = some ⟨g, 0, none⟩ ∧ wr.cell? ⟨g, k, none⟩ = some (.string s) ∧ wr.frozen? ⟨g, k, none⟩ = false ∧ ∀ z, Over W0 (wr.setCell ⟨g, k, none⟩ z) base (.slice A m c) m (k + 1) ss := by
  obtain ⟨⟨ys, hy, hl, hown⟩, hg⟩ := h
  rcases hown.2 with ⟨_, h0⟩ | ⟨gm, cap, cur, hv, hbg, hr⟩
  · omega
  · injection hv with hA _ hc
    subst hA hc
    refine ⟨gm, rfl, ?_, hown.frozenAt k, fun z => ?_⟩
    · rw [hown.cellAt k (by omega), hy k (Nat.le_refl _), List.getElem?_map, hs]; rfl
    · have hs2 := hown.stored k z
      refine ⟨⟨ys.set k z, fun j hj => ?_, by simp [hl], hs2.1⟩, hg.trans hs2.2⟩
      rw [List.getElem?_set_ne (by omega)]
      exact hy j (by omega)
theorem Over.drewN {W0 wr : World} {base : Nat} {v : Value} {m k : Nat} {ss : List ByteArray} (h : Over W0 wr base v m k ss) (q : Nat) : Over W0 (wr.drewN q) base v m k ss :=
  ⟨h.1, ⟨h.2.os, h.2.tape, h.2.output, h.2.size, h.2.block⟩⟩
def IsU8 (u : Value) : Prop := ∃ z : Int, u = .int .u8 z
def IsI64 (u : Value) : Prop := ∃ z : Int, u = .int .i64 z
theorem isU8_map (l : List Nat) : ∀ y ∈ l.map B.u8v, IsU8 y := by
  intro y hy
  obtain ⟨v, _, rfl⟩ := List.mem_map.1 hy
  exact ⟨_, rfl⟩
theorem isI64_map (l : List Nat) : ∀ y ∈ l.map intV, IsI64 y := by
  intro y hy
  obtain ⟨v, _, rfl⟩ := List.mem_map.1 hy
  exact ⟨_, rfl⟩
theorem bl_u8 {W : World} (B0 : Nat) (h : B0 ≤ W.heap.size) : (W.alloc (.cells #[] 5)).ownsRow B0 5 1 (.slice (some ⟨W.heap.size, 0, none⟩) 0 0) 0 [] := World.ownsRow_lit W #[] 0 h (Nat.zero_le _) rfl

set_option maxHeartbeats 32000000 in
theorem own_all (A : Option Addr) (n c : Nat) (ss0 : List ByteArray) (w : World) (hm : n ≤ maxLen) (hs : ArgStr w A n c ss0) :
    Calls Try.prog 3 #[.slice A n c] w fun e w' => e = .returned (.bool true) ∧ Below w.heap.size w w' := by
  have HSET := Lib.hid (lset_any w A n c ss0 hm hs.2.2.2 hs.2.2.1)
  obtain ⟨is, his, hsz0, hsz1, hsz2⟩ := info_parts infoStr
  obtain ⟨iu, hiu, hzu0, hzu1, hzu2⟩ := info_parts B.infoU8
  unfold maxLen at hm
  clear hs
  go_enter Try.func3, Try.ntmps3
  go_wp2_with fail
  refine HSET.out.mono ?_
  intro e w1 hP
  obtain ⟨A1, m, c1, ss, rfl, hF⟩ := setF_of hP
  have HF := Lib.hid hF
  have hfew := hF.few
  have hown0 : (w1.alloc (.cells #[] 9)).ownsRow w1.heap.size 9 1 (.slice (some ⟨w1.heap.size, 0, none⟩) 0 0) 0 [] := World.ownsRow_lit w1 #[] 0 (Nat.le_refl _) (Nat.zero_le _) rfl
  have HO0 := Lib.hid hown0
  have HS1 := Lib.hid ((Sl.of_own hF.own).alloc (Nat.le_refl _) (.cells #[] 9))
  clear hP hF hown0
  go_wp2_with (at_builtin; refine wpList_append_sl _ rfl _ _ 22 rfl w1.heap.size 9 is (.string ⟨#[]⟩) 16 Try.underlying22 his hsz0 hsz1 hsz2 rfl _ _ _ rfl HO0.out w1.heap.size _ _ _ _ rfl HS1.out (strs_one ss) (by unfold maxLen; omega) (by omega) (by simp) ?_; intro v2 w2 hown2 hgrow2 hblk2; simp only [Nat.zero_add, List.nil_append] at hown2; obtain ⟨A2, c2, rfl, hc2, hcm2⟩ := own_shape hown2)
  have HB12 := Lib.hid (((Below.refl w1.heap.size w1).alloc (Nat.le_refl _) (.cells #[] 9)).grown hgrow2 (by simp) (fun q e => by cases e; exact Nat.le_refl _))
  have HO2 := Lib.hid hown2
  have HBD := Lib.hid (lwbuild_any w2 A2 m c2 ss _ rfl HF.out.good HF.out.wt (by unfold maxLen; omega) HF.out.size (Sl.of_own HO2.out))
  clear hown2 hgrow2 hblk2
  go_wp2_with fail
  refine HBD.out.mono ?_
  rintro e w3 ⟨tb, ks, rfl, hT3, hB23⟩
  have HB23 := Lib.hid hB23
  have HT3 := Lib.hid hT3
  have FL := Lib.hid hT3.full
  have hen := lenc_any w3 _ _ tb _ ks hT3
  have hxl := codeK_lt hT3.full
  have hxn := codeK_len (ss.map bytesOf) ks
  have hsC := shapeC_len hT3.full
  have hmC := marksC_len hT3.full
  have hlC := labsC_len hT3.full
  have hiC := idsC_len hT3.full
  have hfw := hT3.full.few
  obtain ⟨X, hX⟩ : ∃ X, codeK (ss.map bytesOf) ks = X := ⟨_, rfl⟩
  rw [hX] at hen hxl hxn
  have HX := Lib.hid hX; have HXL := Lib.hid hxl
  have hXn : X.length ≤ 10000000 := by omega
  obtain ⟨nx, hnx⟩ : ∃ nx, X.length = nx := ⟨_, rfl⟩
  rw [hnx] at hen hXn
  have HEN := Lib.hid hen
  have HNX := Lib.hid hnx
  clear hT3 hB23 hen hX hxl hxn hsC hmC hlC hiC hfw hnx
  go_wp2_with fail
  refine HEN.out.mono ?_
  rintro e w4 ⟨v4, rfl, hown4, hB34⟩
  obtain ⟨A4, c4, rfl, hc4, hcm4⟩ := own_shape hown4
  have HO4 := Lib.hid hown4
  have HB34 := Lib.hid hB34
  have HDC := Lib.hid (ldec_any w4 A4 nx c4 X HXL.out (Sl.of_own HO4.out) hc4 hcm4)
  clear hown4 hB34
  go_wp2_with fail
  refine HDC.out.mono ?_
  intro e w5 hp
  rw [← HX.out] at hp
  obtain ⟨hB45, tb5, rfl, hT5⟩ := dec_code FL.out hp
  have HB45 := Lib.hid hB45; have HU5 := Lib.hid hT5
  clear hp hB45 hT5
  have y1 : w1.heap.size ≤ w2.heap.size := HB12.out.size
  have y2 : w2.heap.size ≤ w3.heap.size := HB23.out.size
  have y3 : w3.heap.size ≤ w4.heap.size := HB34.out.size
  have y4 : w4.heap.size ≤ w5.heap.size := HB45.out.size
  have y0 : w.heap.size ≤ w1.heap.size := HF.out.bel.size
  have HB35 : Hid (Below w3.heap.size w3 w5) := Lib.hid (HB34.out.trans (HB45.out.mono y3))
  have HB25 : Hid (Below w2.heap.size w2 w5) := Lib.hid (HB23.out.trans (HB35.out.mono y2))
  have HB15 : Hid (Below w1.heap.size w1 w5) := Lib.hid (HB12.out.trans (HB25.out.mono y1))
  have HBW5 : Hid (Below w.heap.size w w5) := Lib.hid (HF.out.bel.trans (HB15.out.mono y0))
  have HKP : Hid (∀ W, Kept w w5 w1.heap.size w2.heap.size w3.heap.size w4.heap.size w5.heap.size W → TR W w2.heap.size w3.heap.size tb (ss.map bytesOf) ks ∧ TR W w4.heap.size w5.heap.size tb5 (ss.map bytesOf) ks ∧ Sl W w1.heap.size A1 m (ss.map Value.string)) := Lib.hid (fun W hW => by
    have t5 := HT3.out.next HB35.out
    refine ⟨⟨t5.good, by have := hW.sz; omega, t5.at'.agree hW.t⟩, ⟨HU5.out.good, hW.sz, HU5.out.at'.agree hW.u⟩, ?_⟩
    exact ((Sl.of_own HF.out.own).below HB15.out).keep (fun b o hlt => World.cell?_of_block (a := ⟨b, o, none⟩) (hW.l b (Nat.zero_le _) hlt)))
  have HK5 : Hid (Kept w w5 w1.heap.size w2.heap.size w3.heap.size w4.heap.size w5.heap.size w5) := Lib.hid ⟨Agree.refl _ _ _, Agree.refl _ _ _, Agree.refl _ _ _, HBW5.out, Nat.le_refl _⟩
  have HO25 := Lib.hid (own_below HO2.out HB25.out (fun k hk => (HO2.out.lt k hk).2))
  have HIN : Hid (∀ q, (Value.slice A2 m c2).ownBlock = some q → w1.heap.size ≤ q ∧ q < w2.heap.size) := Lib.hid (fun q hq => HO2.out.lt q hq)
  have HBB : Hid (∀ q, (Value.slice A4 nx c4).ownBlock = some q → w3.heap.size ≤ q ∧ q < w4.heap.size) := Lib.hid (fun q hq => HO4.out.lt q hq)
  have HO45 := Lib.hid (own_below HO4.out HB45.out (fun k hk => (HO4.out.lt k hk).2))
  have HOV5 : Hid (Over w5 w5 w1.heap.size (.slice A2 m c2) m 0 ss) := Lib.hid ⟨⟨_, fun j _ => rfl, own_len HO25.out, HO25.out⟩, World.grownBy.refl _ _⟩
  obtain ⟨z1, hz1⟩ : ∃ z, w1.heap.size = z := ⟨_, rfl⟩
  obtain ⟨z2, hz2⟩ : ∃ z, w2.heap.size = z := ⟨_, rfl⟩
  obtain ⟨z3, hz3⟩ : ∃ z, w3.heap.size = z := ⟨_, rfl⟩
  obtain ⟨z4, hz4⟩ : ∃ z, w4.heap.size = z := ⟨_, rfl⟩
  obtain ⟨z5, hz5⟩ : ∃ z, w5.heap.size = z := ⟨_, rfl⟩
  rw [hz1] at y0 y1
  rw [hz2] at y1 y2
  rw [hz3] at y2 y3
  rw [hz4] at y3 y4
  rw [hz5] at y4
  rw [hz1, hz2, hz3, hz4, hz5] at HKP HK5
  rw [hz1, hz2] at HIN
  rw [hz3, hz4] at HBB
  rw [hz1] at HOV5
  rw [hz3] at HO45
  have HZ5 := Lib.hid hz5
  clear hz1 hz2 hz3 hz4 hz5 HS1 HO0 HB12 HB23 HB34 HB45 HB35 HB25 HB15 HBD HEN HDC HO2 HO25 HO4 HT3 HU5
  have HLEN := Lib.hid HF.out.len
  go_wp2
  go_loopw [33] (fun x wr => ∃ k : Nat, x = .int .i64 k ∧ k ≤ m ∧ Hid (Over w5 wr z1 (.slice A2 m c2) m k ss)) (fun x _ => m - (intOf x).toNat)
  case atStart => exact ⟨0, rfl, Nat.zero_le _, HOV5⟩
  case round =>
    obtain ⟨k, rfl, hk, HOV⟩ := hrel
    have HKr : Hid (Kept w w5 z1 z2 z3 z4 z5 wr) := Lib.hid (HK5.out.grown y1 y2 y3 y4 HOV.out.2 (fun q e => by have := HIN.out q e; omega))
    by_cases hlt : k < m
    · have hb0 : decide ((k : Int) < (m : Int)) = true := by simp; omega
      obtain ⟨b, off, u, rfl, hbl, hu, hcl⟩ := (HKP.out wr HKr.out).2.2.at_ hlt
      rw [List.getElem?_map] at hu
      obtain ⟨s, hs, rfl⟩ := Option.map_eq_some_iff.1 hu
      obtain ⟨g, rfl, hci, hfi, -⟩ := HOV.out.at_ hlt hs
      have HN : Hid (∀ q z, Over w5 ((wr.drewN q).setCell ⟨g, k, none⟩ z) z1 (.slice (some ⟨g, 0, none⟩) m c2) m (k + 1) ss) := Lib.hid (fun q z => by
        obtain ⟨g', e, _, _, h⟩ := (HOV.out.drewN q).at_ hlt hs
        injection e with e
        injection e with e1
        subst e1
        exact h z)
      have i1 : (0 : Int) ≤ (k : Int) := by omega
      have i2 : (k : Int) < (m : Int) := by omega
      have g1 : (s.toList == s.toList) = true := by simp
      clear hu hs hbl
      go_wp2
      go_quiet (fail)
      go_wp2
      go_roundw
      case rel => exact ⟨k + 1, by go_num, by omega, Lib.hid (HN.out _ _)⟩
      case measure => simp [intOf]; omega
    · obtain rfl : k = m := by omega
      have hb0 : decide ((k : Int) < (k : Int)) = false := by simp
      have hszr := HOV.out.2.size
      rw [HZ5.out] at hszr
      have hob := own_at HO45.out (w' := wr) (fun g hg => HOV.out.2.block g (HO45.out.lt g hg).2 (fun e => by
        have h1 := HBB.out g hg
        have h2 := HIN.out g e.symm
        omega))
      have HOB := Lib.hid hob
      have HSB := Lib.hid ((Sl.of_own hob).alloc (Nat.le_refl _) (.cells #[] 5))
      have HO00 := Lib.hid (bl_u8 (W := wr) wr.heap.size (Nat.le_refl _))
      have hnc4 : nx ≤ c4 := hc4
      obtain ⟨wo, rfl⟩ : ∃ wo : World, wo = wr := ⟨_, rfl⟩
      clear hob
      go_wp2_with (at_builtin; refine wpList_append_sl _ rfl _ _ 26 rfl wo.heap.size 5 iu (.int .u8 0) 1 Try.underlying26 hiu hzu0 hzu1 hzu2 rfl _ _ _ rfl HO00.out wo.heap.size _ _ _ _ rfl HSB.out (u8s_one X) (by unfold maxLen; omega) (by omega) (by simp) ?_; intro v6 w6 hown6 hgrow6 hblk6; simp only [Nat.zero_add, List.nil_append] at hown6; obtain ⟨A6, c6, rfl, hc6, hcm6⟩ := own_shape hown6)
      have HB6 := Lib.hid (((Below.refl wo.heap.size wo).alloc (Nat.le_refl _) (.cells #[] 5)).grown hgrow6 (by simp) (fun q e => by cases e; exact Nat.le_refl _))
      have HC6 := Lib.hid hown6
      have HK6 := Lib.hid (HKr.out.next y1 y2 y3 y4 HB6.out)
      have HBU := Lib.hid (BumpV.start (isU8_map X) (own_below HOB.out HB6.out (fun g hg => (HOB.out.lt g hg).2)))
      have hz6 : wo.heap.size ≤ w6.heap.size := HB6.out.size
      clear hown6 hgrow6 hblk6 HO00 HSB
      go_wp2
      go_loopw [54] (fun x wr => ∃ j : Nat, x = .int .i64 j ∧ j ≤ nx ∧ Hid (BumpV IsU8 5 w6 wr z3 (.slice A4 nx c4) nx)) (fun x _ => nx - (intOf x).toNat)
      case atStart => exact ⟨0, rfl, Nat.zero_le _, HBU⟩
      case round =>
        obtain ⟨j, rfl, hj, HBM⟩ := hrel
        by_cases hlt2 : j < nx
        · have hb1 : decide ((j : Int) < (nx : Int)) = true := by simp; omega
          obtain ⟨gm, y, ⟨yb, rfl⟩, rfl, hcy, hfy, hnext⟩ := HBM.out.at_ hlt2
          have HN := Lib.hid hnext
          have i1 : (0 : Int) ≤ (j : Int) := by omega
          have i2 : (j : Int) < (nx : Int) := by omega
          clear hnext
          go_wp2
          go_roundw
          case rel => exact ⟨j + 1, by go_num, by omega, Lib.hid (HN.out _ ⟨_, rfl⟩)⟩
          case measure => simp [intOf]; omega
        · obtain rfl : j = nx := by omega
          have hb1 : decide ((j : Int) < (j : Int)) = false := by simp
          have HK7 : Hid (Kept w w5 z1 z2 z3 z4 z5 wr) := Lib.hid (HK6.out.grown y1 y2 y3 y4 HBM.out.2 (fun q e => by have := HBB.out q e; omega))
          have HSC := Lib.hid (Sl.apart (Sl.of_own HC6.out) HBM.out.2 (Nat.le_refl _) (fun a ha h0 e => by
            have h1 := own_from HC6.out a ha
            have h2 := HBB.out a.block e
            omega))
          have hz7 : w6.heap.size ≤ wr.heap.size := HBM.out.2.size
          have hun := lunder_any wr _ _ tb _ ks (HKP.out wr HK7.out).1 ⟨#[]⟩ (by decide) (k : Nat) (B.wf_i64 _ (by omega))
          obtain ⟨U, hU⟩ : ∃ U, (under (ss.map bytesOf) (bytesOf ⟨#[]⟩)).take ((k : Nat) : Int).toNat = U := ⟨_, rfl⟩
          rw [hU] at hun
          have hUl : U.length ≤ 300 := by
            rw [← hU, List.length_take, Int.toNat_natCast]
            omega
          have HUN := Lib.hid hun
          clear hU hun
          obtain ⟨wp, rfl⟩ : ∃ wp : World, wp = wr := ⟨_, rfl⟩
          go_wp2_with fail
          refine HUN.out.mono ?_
          rintro e w8 ⟨v8, rfl, hown8, hB8⟩
          obtain ⟨A8, c8, rfl, hc8, hcm8⟩ := own_shape hown8
          have HB8 := Lib.hid hB8
          have HX8 : Hid (∀ q, (Value.slice A8 U.length c8).ownBlock = some q → wp.heap.size ≤ q) := Lib.hid (fun q hq => (hown8.lt q hq).1)
          have HBV := Lib.hid (BumpV.start (isI64_map U) hown8)
          have HK8 := Lib.hid (HK7.out.next y1 y2 y3 y4 hB8)
          have HSC8 := Lib.hid ((HSC.out.more hz7).below hB8)
          obtain ⟨nu, hnu⟩ : ∃ nu, U.length = nu := ⟨_, rfl⟩
          rw [hnu] at hUl HX8 HBV ⊢
          have hz8 : wp.heap.size ≤ w8.heap.size := hB8.size
          clear hown8 hB8 hnu HUN
          go_wp2
          go_loopw [72] (fun x wr => ∃ t : Nat, x = .int .i64 t ∧ t ≤ nu ∧ Hid (BumpV IsI64 3 w8 wr wp.heap.size (.slice A8 nu c8) nu)) (fun x _ => nu - (intOf x).toNat)
          case atStart => exact ⟨0, rfl, Nat.zero_le _, HBV⟩
          case round =>
            obtain ⟨t, rfl, ht, HBN⟩ := hrel
            by_cases hlt3 : t < nu
            · have hb2 : decide ((t : Int) < (nu : Int)) = true := by simp; omega
              obtain ⟨gm, y, ⟨yb, rfl⟩, rfl, hcy, hfy, hnext⟩ := HBN.out.at_ hlt3
              have HN := Lib.hid hnext
              have i1 : (0 : Int) ≤ (t : Int) := by omega
              have i2 : (t : Int) < (nu : Int) := by omega
              clear hnext
              go_wp2
              go_roundw
              case rel => exact ⟨t + 1, by go_num, by omega, Lib.hid (HN.out _ ⟨_, rfl⟩)⟩
              case measure => simp [intOf]; omega
            · obtain rfl : t = nu := by omega
              have hb2 : decide ((t : Int) < (t : Int)) = false := by simp
              have HK9 : Hid (Kept w w5 z1 z2 z3 z4 z5 wr) := Lib.hid (HK8.out.grown y1 y2 y3 y4 HBN.out.2 (fun q e => by
                have h1 := HX8.out q e
                have h2 := HK7.out.bel.size
                have h3 := HK7.out.sz
                omega))
              have HSCr := Lib.hid (Sl.apart HSC8.out HBN.out.2 hz8 (fun a ha h0 e => by
                obtain ⟨b, off, ea, hb, -⟩ := HSC8.out.2 h0
                have h1 := HX8.out a.block e
                have h2 : a.block = b := by rw [ea] at ha; injection ha with ha; rw [← ha]
                omega))
              have HCB : Hid (∀ W, Below wr.heap.size wr W → (convert 26 9 (.slice A6 j c6)).run Try.prog W = .ok (.string (bs X)) W) := Lib.hid (fun W hW => conv_bytes ((HSCr.out.more (Nat.le_trans hz8 HBN.out.2.size)).below hW) c6)
              have hszw : wr.heap.size ≤ wr.heap.size := Nat.le_refl _
              have HBd : Hid (Below wr.heap.size wr wr.drew) := Lib.hid ((Below.refl wr.heap.size wr).drew)
              have hcb := HCB.out wr.drew HBd.out
              have HKd := Lib.hid (HK9.out.next y1 y2 y3 y4 HBd.out)
              have hsw := HK9.out.sz
              have hhas := lhas_any wr.drew _ _ tb ks A1 k c1 ss (HKP.out _ HKd.out).1 (by unfold maxLen; omega) HF.out.size ((HKP.out _ HKd.out).2.2.more (by show z1 ≤ wr.heap.size; omega))
              have HHAS := Lib.hid hhas
              have hbq : ((bs X).toList == (bs X).toList) = true := by simp
              clear hhas
              go_wp2_with fail
              refine wp_region_held_drew (S := fun w' => (convert 26 9 (.slice A6 j c6)).run Try.prog w' = .ok (.string (bs X)) w') (by kernel_rfl) hcb (fun hHeld => ?_)
              refine wpAnyH_take (i := 0) (oi := _) (v := ?_) rfl (by kernel_rfl) (by kernel_rfl) (by kernel_rfl) (fun _ _ _ h => h) (Or.inl ⟨by rfl, ?_⟩) hHeld ?_
              rotate_left
              · (intro w hSw; (try dsimp only at hSw); simp only [List.getElem_toArray, List.getElem_cons_zero]; go_simp; try with_reducible rfl)
              simp only [List.getElem_toArray, List.getElem_cons_zero, Act.put, List.setIfInBounds_toArray, List.set_cons_zero, List.set_cons_succ]
              refine wpAnyH_take (i := 1) (oi := _) (v := ?_) rfl (by kernel_rfl) (by kernel_rfl) (by kernel_rfl) (fun _ _ _ h => h) (Or.inl ⟨by rfl, ?_⟩) hHeld ?_
              rotate_left
              · (intro w hSw; (try dsimp only at hSw); simp only [List.getElem_toArray, List.getElem_cons_zero, List.getElem_cons_succ]; go_simp; try with_reducible rfl)
              simp only [List.getElem_toArray, List.getElem_cons_zero, List.getElem_cons_succ, Act.put, List.setIfInBounds_toArray, List.set_cons_zero, List.set_cons_succ]
              refine wpAnyH_ready (rs := [2]) (by kernel_rfl) (by simp) ?_
              refine AllReadyH.cons (o := _) rfl (fun K hK => ?_) AllReadyH.nil
              go_simp
              refine HHAS.out.mono ?_
              rintro e q1 ⟨rfl, hb1'⟩
              have HQ1 := Lib.hid (HBd.out.trans (hb1'.mono hszw))
              have hq1 := HCB.out q1 HQ1.out
              have HK1 := Lib.hid (HK9.out.next y1 y2 y3 y4 HQ1.out)
              have hsq1 := HK1.out.sz
              have HHS1 := Lib.hid (lhas_any q1 _ _ tb5 ks A1 k c1 ss (HKP.out _ HK1.out).2.1 (by unfold maxLen; omega) HF.out.size ((HKP.out _ HK1.out).2.2.more (by omega)))
              have hzq1 := HQ1.out.size
              clear hb1'
              go_wp2_with fail
              refine hK.out _ _ (hq1) (fun hHeld => ?_)
              clear hK K
              try simp only [Act.put, List.setIfInBounds_toArray, List.set_cons_zero, List.set_cons_succ]
              refine wpAnyH_take (i := 3) (oi := _) (v := ?_) rfl (by kernel_rfl) (by kernel_rfl) (by kernel_rfl) (fun _ _ _ h => h) (Or.inl ⟨by rfl, ?_⟩) hHeld ?_
              rotate_left
              · (intro w hSw; (try dsimp only at hSw); simp only [List.getElem_toArray, List.getElem_cons_zero, List.getElem_cons_succ]; go_simp; try with_reducible rfl)
              simp only [List.getElem_toArray, List.getElem_cons_zero, List.getElem_cons_succ, Act.put, List.setIfInBounds_toArray, List.set_cons_zero, List.set_cons_succ]
              refine wpAnyH_take (i := 4) (oi := _) (v := ?_) rfl (by kernel_rfl) (by kernel_rfl) (by kernel_rfl) (fun _ _ _ h => h) (Or.inl ⟨by rfl, ?_⟩) hHeld ?_
              rotate_left
              · (intro w hSw; (try dsimp only at hSw); simp only [List.getElem_toArray, List.getElem_cons_zero, List.getElem_cons_succ]; go_simp; try with_reducible rfl)
              simp only [List.getElem_toArray, List.getElem_cons_zero, List.getElem_cons_succ, Act.put, List.setIfInBounds_toArray, List.set_cons_zero, List.set_cons_succ]
              refine wpAnyH_take (i := 5) (oi := _) (v := ?_) rfl (by kernel_rfl) (by kernel_rfl) (by kernel_rfl) (fun _ _ _ h => h) (Or.inl ⟨by rfl, ?_⟩) hHeld ?_
              rotate_left
              · (intro w hSw; (try dsimp only at hSw); simp only [List.getElem_toArray, List.getElem_cons_zero, List.getElem_cons_succ]; go_simp; try with_reducible rfl)
              simp only [List.getElem_toArray, List.getElem_cons_zero, List.getElem_cons_succ, Act.put, List.setIfInBounds_toArray, List.set_cons_zero, List.set_cons_succ]
              refine wpAnyH_ready (rs := [6]) (by kernel_rfl) (by simp) ?_
              refine AllReadyH.cons (o := _) rfl (fun K hK => ?_) AllReadyH.nil
              go_simp
              refine HHS1.out.mono ?_
              rintro e q2 ⟨rfl, hb2'⟩
              have HQ2 := Lib.hid (HQ1.out.trans (hb2'.mono hzq1))
              have hq2 := HCB.out q2 HQ2.out
              have HK2 := Lib.hid (HK9.out.next y1 y2 y3 y4 HQ2.out)
              have hen2 := lenc_any q2 _ _ tb _ ks (HKP.out _ HK2.out).1
              rw [HX.out, HNX.out] at hen2
              have HEN2 := Lib.hid hen2
              have hzq2 := HQ2.out.size
              clear hb2' hen2
              go_wp2_with fail
              refine hK.out _ _ (hq2) (fun hHeld => ?_)
              clear hK K
              try simp only [Act.put, List.setIfInBounds_toArray, List.set_cons_zero, List.set_cons_succ]
              refine wpAnyH_take (i := 7) (oi := _) (v := ?_) rfl (by kernel_rfl) (by kernel_rfl) (by kernel_rfl) (fun _ _ _ h => h) (Or.inl ⟨by rfl, ?_⟩) hHeld ?_
              rotate_left
              · (intro w hSw; (try dsimp only at hSw); simp only [List.getElem_toArray, List.getElem_cons_zero, List.getElem_cons_succ]; go_simp; try with_reducible rfl)
              simp only [List.getElem_toArray, List.getElem_cons_zero, List.getElem_cons_succ, Act.put, List.setIfInBounds_toArray, List.set_cons_zero, List.set_cons_succ]
              refine wpAnyH_take (i := 8) (oi := _) (v := ?_) rfl (by kernel_rfl) (by kernel_rfl) (by kernel_rfl) (fun _ _ _ h => h) (Or.inl ⟨by rfl, ?_⟩) hHeld ?_
              rotate_left
              · (intro w hSw; (try dsimp only at hSw); simp only [List.getElem_toArray, List.getElem_cons_zero, List.getElem_cons_succ]; go_simp; try with_reducible rfl)
              simp only [List.getElem_toArray, List.getElem_cons_zero, List.getElem_cons_succ, Act.put, List.setIfInBounds_toArray, List.set_cons_zero, List.set_cons_succ]
              refine wpAnyH_take (i := 9) (oi := _) (v := ?_) rfl (by kernel_rfl) (by kernel_rfl) (by kernel_rfl) (fun _ _ _ h => h) (Or.inl ⟨by rfl, ?_⟩) hHeld ?_
              rotate_left
              · (intro w hSw; (try dsimp only at hSw); simp only [List.getElem_toArray, List.getElem_cons_zero, List.getElem_cons_succ]; go_simp; try with_reducible rfl)
              simp only [List.getElem_toArray, List.getElem_cons_zero, List.getElem_cons_succ, Act.put, List.setIfInBounds_toArray, List.set_cons_zero, List.set_cons_succ]
              refine wpAnyH_take (i := 12) (oi := _) (v := ?_) rfl (by kernel_rfl) (by kernel_rfl) (by kernel_rfl) (fun _ _ _ h => h) (Or.inl ⟨by rfl, ?_⟩) hHeld ?_
              rotate_left
              · (intro w hSw; (try dsimp only at hSw); simp only [List.getElem_toArray, List.getElem_cons_zero, List.getElem_cons_succ]; go_simp; try with_reducible rfl)
              simp only [List.getElem_toArray, List.getElem_cons_zero, List.getElem_cons_succ, Act.put, List.setIfInBounds_toArray, List.set_cons_zero, List.set_cons_succ]
              refine wpAnyH_take (i := 13) (oi := _) (v := ?_) rfl (by kernel_rfl) (by kernel_rfl) (by kernel_rfl) (fun _ _ _ h => h) (Or.inl ⟨by rfl, ?_⟩) hHeld ?_
              rotate_left
              · (intro w hSw; (try dsimp only at hSw); simp only [List.getElem_toArray, List.getElem_cons_zero, List.getElem_cons_succ]; go_simp; try with_reducible rfl)
              simp only [List.getElem_toArray, List.getElem_cons_zero, List.getElem_cons_succ, Act.put, List.setIfInBounds_toArray, List.set_cons_zero, List.set_cons_succ]
              refine wpAnyH_ready (rs := [10]) (by kernel_rfl) (by simp) ?_
              refine AllReadyH.cons (o := _) rfl (fun K hK => ?_) AllReadyH.nil
              go_simp
              refine HEN2.out.mono ?_
              rintro e q3 ⟨v3, rfl, hown3, hb3'⟩
              obtain ⟨A13, c13, rfl, -, -⟩ := own_shape hown3
              have hcv3 := B.conv_put hown3
              have HQ3 := Lib.hid (HQ2.out.trans (hb3'.mono hzq2))
              have hq3 := HCB.out q3 HQ3.out
              have HK3 := Lib.hid (HK9.out.next y1 y2 y3 y4 HQ3.out)
              have hen3 := lenc_any q3 _ _ tb5 _ ks (HKP.out _ HK3.out).2.1
              rw [HX.out, HNX.out] at hen3
              have HEN3 := Lib.hid hen3
              have hzq3 := HQ3.out.size
              clear hown3 hb3' hen3
              go_wp2_with fail
              refine hK.out _ _ (hq3) (fun hHeld => ?_)
              clear hK K
              try simp only [Act.put, List.setIfInBounds_toArray, List.set_cons_zero, List.set_cons_succ]
              refine wpAnyH_ready (rs := [11]) (by kernel_rfl) (by simp) ?_
              refine AllReadyH.cons (o := _) rfl (fun K hK => ?_) AllReadyH.nil
              go_simp
              refine hK.out _ _ (hq3) (fun hHeld => ?_)
              clear hK K
              try simp only [Act.put, List.setIfInBounds_toArray, List.set_cons_zero, List.set_cons_succ]
              refine wpAnyH_take (i := 14) (oi := _) (v := ?_) rfl (by kernel_rfl) (by kernel_rfl) (by kernel_rfl) (fun _ _ _ h => h) (Or.inl ⟨by rfl, ?_⟩) hHeld ?_
              rotate_left
              · (intro w hSw; (try dsimp only at hSw); simp only [List.getElem_toArray, List.getElem_cons_zero, List.getElem_cons_succ]; go_simp; try with_reducible rfl)
              simp only [List.getElem_toArray, List.getElem_cons_zero, List.getElem_cons_succ, Act.put, List.setIfInBounds_toArray, List.set_cons_zero, List.set_cons_succ]
              refine wpAnyH_take (i := 15) (oi := _) (v := ?_) rfl (by kernel_rfl) (by kernel_rfl) (by kernel_rfl) (fun _ _ _ h => h) (Or.inl ⟨by rfl, ?_⟩) hHeld ?_
              rotate_left
              · (intro w hSw; (try dsimp only at hSw); simp only [List.getElem_toArray, List.getElem_cons_zero, List.getElem_cons_succ]; go_simp; try with_reducible rfl)
              simp only [List.getElem_toArray, List.getElem_cons_zero, List.getElem_cons_succ, Act.put, List.setIfInBounds_toArray, List.set_cons_zero, List.set_cons_succ]
              refine wpAnyH_take (i := 16) (oi := _) (v := ?_) rfl (by kernel_rfl) (by kernel_rfl) (by kernel_rfl) (fun _ _ _ h => h) (Or.inl ⟨by rfl, ?_⟩) hHeld ?_
              rotate_left
              · (intro w hSw; (try dsimp only at hSw); simp only [List.getElem_toArray, List.getElem_cons_zero, List.getElem_cons_succ]; go_simp; try with_reducible rfl)
              simp only [List.getElem_toArray, List.getElem_cons_zero, List.getElem_cons_succ, Act.put, List.setIfInBounds_toArray, List.set_cons_zero, List.set_cons_succ]
              refine wpAnyH_take (i := 17) (oi := _) (v := ?_) rfl (by kernel_rfl) (by kernel_rfl) (by kernel_rfl) (fun _ _ _ h => h) (Or.inl ⟨by rfl, ?_⟩) hHeld ?_
              rotate_left
              · (intro w hSw; (try dsimp only at hSw); simp only [List.getElem_toArray, List.getElem_cons_zero, List.getElem_cons_succ]; go_simp; try with_reducible rfl)
              simp only [List.getElem_toArray, List.getElem_cons_zero, List.getElem_cons_succ, Act.put, List.setIfInBounds_toArray, List.set_cons_zero, List.set_cons_succ]
              refine wpAnyH_take (i := 20) (oi := _) (v := ?_) rfl (by kernel_rfl) (by kernel_rfl) (by kernel_rfl) (fun _ _ _ h => h) (Or.inl ⟨by rfl, ?_⟩) hHeld ?_
              rotate_left
              · (intro w hSw; (try dsimp only at hSw); simp only [List.getElem_toArray, List.getElem_cons_zero, List.getElem_cons_succ]; go_simp; try with_reducible rfl)
              simp only [List.getElem_toArray, List.getElem_cons_zero, List.getElem_cons_succ, Act.put, List.setIfInBounds_toArray, List.set_cons_zero, List.set_cons_succ]
              refine wpAnyH_take (i := 21) (oi := _) (v := ?_) rfl (by kernel_rfl) (by kernel_rfl) (by kernel_rfl) (fun _ _ _ h => h) (Or.inl ⟨by rfl, ?_⟩) hHeld ?_
              rotate_left
              · (intro w hSw; (try dsimp only at hSw); simp only [List.getElem_toArray, List.getElem_cons_zero, List.getElem_cons_succ]; go_simp; try with_reducible rfl)
              simp only [List.getElem_toArray, List.getElem_cons_zero, List.getElem_cons_succ, Act.put, List.setIfInBounds_toArray, List.set_cons_zero, List.set_cons_succ]
              refine wpAnyH_ready (rs := [18]) (by kernel_rfl) (by simp) ?_
              refine AllReadyH.cons (o := _) rfl (fun K hK => ?_) AllReadyH.nil
              go_simp
              refine HEN3.out.mono ?_
              rintro e q4 ⟨v4, rfl, hown4, hb4'⟩
              obtain ⟨A14, c14, rfl, -, -⟩ := own_shape hown4
              have hcv4 := B.conv_put hown4
              have HQ4 := Lib.hid (HQ3.out.trans (hb4'.mono hzq3))
              have hq4 := HCB.out q4 HQ4.out
              have hzq4 := HQ4.out.size
              clear hown4 hb4'
              go_wp2_with fail
              refine hK.out _ _ (hq4) (fun hHeld => ?_)
              clear hK K
              try simp only [Act.put, List.setIfInBounds_toArray, List.set_cons_zero, List.set_cons_succ]
              refine wpAnyH_ready (rs := [19]) (by kernel_rfl) (by simp) ?_
              refine AllReadyH.cons (o := _) rfl (fun K hK => ?_) AllReadyH.nil
              go_simp
              refine hK.out _ _ (hq4) (fun hHeld => ?_)
              clear hK K
              try simp only [Act.put, List.setIfInBounds_toArray, List.set_cons_zero, List.set_cons_succ]
              refine wpAnyH_take (i := 22) (oi := _) (v := ?_) rfl (by kernel_rfl) (by kernel_rfl) (by kernel_rfl) (fun _ _ _ h => h) (Or.inl ⟨by rfl, ?_⟩) hHeld ?_
              rotate_left
              · (intro w hSw; (try dsimp only at hSw); simp only [List.getElem_toArray, List.getElem_cons_zero, List.getElem_cons_succ]; go_simp; try with_reducible rfl)
              simp only [List.getElem_toArray, List.getElem_cons_zero, List.getElem_cons_succ, Act.put, List.setIfInBounds_toArray, List.set_cons_zero, List.set_cons_succ]
              refine wpAnyH_take (i := 23) (oi := _) (v := ?_) rfl (by kernel_rfl) (by kernel_rfl) (by kernel_rfl) (fun _ _ _ h => h) (Or.inl ⟨by rfl, ?_⟩) hHeld ?_
              rotate_left
              · (intro w hSw; (try dsimp only at hSw); simp only [List.getElem_toArray, List.getElem_cons_zero, List.getElem_cons_succ]; go_simp; try with_reducible rfl)
              simp only [List.getElem_toArray, List.getElem_cons_zero, List.getElem_cons_succ, Act.put, List.setIfInBounds_toArray, List.set_cons_zero, List.set_cons_succ]
              refine wpAnyH_take (i := 24) (oi := _) (v := ?_) rfl (by kernel_rfl) (by kernel_rfl) (by kernel_rfl) (fun _ _ _ h => h) (Or.inl ⟨by rfl, ?_⟩) hHeld ?_
              rotate_left
              · (intro w hSw; (try dsimp only at hSw); simp only [List.getElem_toArray, List.getElem_cons_zero, List.getElem_cons_succ]; go_simp; try with_reducible rfl)
              simp only [List.getElem_toArray, List.getElem_cons_zero, List.getElem_cons_succ, Act.put, List.setIfInBounds_toArray, List.set_cons_zero, List.set_cons_succ]
              refine wpAnyH_ready (rs := [25]) (by kernel_rfl) (by simp) ?_
              refine AllReadyH.cons (o := _) rfl (fun K hK => ?_) AllReadyH.nil
              go_simp
              refine (lworks_true q4).mono ?_
              rintro e q5 ⟨rfl, hb5'⟩
              have HQ5 := Lib.hid (HQ4.out.trans (hb5'.mono hzq4))
              have hq5 := HCB.out q5 HQ5.out
              have HK5' := Lib.hid (HK9.out.next y1 y2 y3 y4 HQ5.out)
              clear hb5'
              go_wp2_with fail
              refine hK.out _ _ (hq5) (fun hHeld => ?_)
              clear hK K
              try simp only [Act.put, List.setIfInBounds_toArray, List.set_cons_zero, List.set_cons_succ]
              refine wpAnyH_take (i := 26) (oi := _) (v := ?_) rfl (by kernel_rfl) (by kernel_rfl) (by kernel_rfl) (fun _ _ _ h => h) (Or.inl ⟨by rfl, ?_⟩) hHeld ?_
              rotate_left
              · (intro w hSw; (try dsimp only at hSw); simp only [List.getElem_toArray, List.getElem_cons_zero, List.getElem_cons_succ]; go_simp; try with_reducible rfl)
              simp only [List.getElem_toArray, List.getElem_cons_zero, List.getElem_cons_succ, Act.put, List.setIfInBounds_toArray, List.set_cons_zero, List.set_cons_succ]
              refine wpAnyH_take (i := 27) (oi := _) (v := ?_) rfl (by kernel_rfl) (by kernel_rfl) (by kernel_rfl) (fun _ _ _ h => h) (Or.inl ⟨by rfl, ?_⟩) hHeld ?_
              rotate_left
              · (intro w hSw; (try dsimp only at hSw); simp only [List.getElem_toArray, List.getElem_cons_zero, List.getElem_cons_succ]; go_simp; try with_reducible rfl)
              simp only [List.getElem_toArray, List.getElem_cons_zero, List.getElem_cons_succ, Act.put, List.setIfInBounds_toArray, List.set_cons_zero, List.set_cons_succ]
              refine wpAnyH_done (by kernel_rfl) ?_ _
              go_wp2
              go_ret
              exact ⟨rfl, HK5'.out.bel⟩
end Go.Proofs.Ytpnkjfjkeoleaaa.LD
