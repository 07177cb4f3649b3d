/- louds, the reference's Encode: four rows that grow side by side. -/
import Derived.Test.YtpnkjfjkeoleaaaLcRef
import Derived.Test.YtpnkjfjkeoleaaaLePart
import Derived.Test.YtpnkjfjkeoleaaaLrHits
import Derived.Test.YtpnkjfjkeoleaaaLeEnc
import Derived.Test.YtpnkjfjkeoleaaaGBvR
import Derived.Test.YtpnkjfjkeoleaaaGPkB
import Derived.Maps.AppendAt
import Derived.Deep.DeepCutAuto
import Derived.Deep.CutBlock
import Derived.Deep.AppendLies
import Derived.Deep.RegionHeld3
import Derived.BigQuiet
set_option linter.unusedVariables false
set_option maxRecDepth 100000
namespace Go.Proofs.Ytpnkjfjkeoleaaa.LD
open Go.RowKit HK
open Go.Proofs.Ytpnkjfjkeoleaaa.B (bytesOf bytesOf_len bytesOf_lt PutInv bcode_len)

structure E4 (w W : World) (vs vl vi vn : Value) (ns nl ni nn : Nat) (S : List Bool) (Lb : List Nat) (I : List Bool) (D : List Nat) : Prop where
  s : W.ownsRow w.heap.size 4 1 vs ns (S.map Value.bool)
  l : W.ownsRow w.heap.size 5 1 vl nl (Lb.map B.u8v)
  i : W.ownsRow w.heap.size 4 1 vi ni (I.map Value.bool)
  n : W.ownsRow w.heap.size 87 1 vn nn (D.map u64v)
  sep : ∀ q, vs.ownBlock = some q → vi.ownBlock ≠ some q
  bel : Below w.heap.size w W
theorem own_grown {w W W' : World} {e : TypeId} {v : Value} {n : Nat} {xs : List Value} {row : Option Nat} {o : Obj} (h : W.ownsRow w.heap.size e 1 v n xs) (hg : (W.alloc o).grownBy W' row) (hne : ∀ q, v.ownBlock = some q → row ≠ some q) : W'.ownsRow w.heap.size e 1 v n xs :=
  own_at (h.alloc o) (fun g hq => hg.block g ((h.alloc o).lt g hq).2 (fun e => hne g hq e.symm))
section
variable {w W W' : World} {vs vl vi vn v' : Value} {ns nl ni nn : Nat} {S : List Bool} {Lb : List Nat} {I : List Bool} {D : List Nat} {o : Obj} (h : E4 w W vs vl vi vn ns nl ni nn S Lb I D)
include h
theorem E4.drewN (q : Nat) : E4 w (W.drewN q) vs vl vi vn ns nl ni nn S Lb I D :=
  ⟨own_drewN h.s q, own_drewN h.l q, own_drewN h.i q, own_drewN h.n q, h.sep, bel_drewN h.bel q⟩
theorem E4.next (hb : Below W.heap.size W W') : E4 w W' vs vl vi vn ns nl ni nn S Lb I D :=
  ⟨own_below h.s hb (fun q hq => (h.s.lt q hq).2), own_below h.l hb (fun q hq => (h.l.lt q hq).2), own_below h.i hb (fun q hq => (h.i.lt q hq).2), own_below h.n hb (fun q hq => (h.n.lt q hq).2), h.sep, h.bel.trans (hb.mono h.bel.size)⟩
theorem E4.pushS {b : Bool} (ho : W'.ownsRow w.heap.size 4 1 v' (ns + 1) (S.map Value.bool ++ [.bool b])) (hg : (W.alloc o).grownBy W' vs.ownBlock) (hk : v'.ownBlock = vs.ownBlock ∨ v'.ownBlock = some (W.alloc o).heap.size) : E4 w W' v' vl vi vn (ns + 1) nl ni nn (S ++ [b]) Lb I D := by
  refine ⟨by simpa using ho, own_grown h.l hg (own_own h.s h.l (by decide)), own_grown h.i hg (fun q hq e => h.sep q e hq), own_grown h.n hg (own_own h.s h.n (by decide)), fun q hq e => ?_, bel_app h.bel (Nat.le_refl _) h.s hg⟩
  rcases hk with hk | hk
  · exact h.sep q (hk ▸ hq) e
  · rw [hk] at hq; injection hq with hq
    have := (h.i.lt q e).2
    simp at hq; omega
theorem E4.pushL {b : Nat} (ho : W'.ownsRow w.heap.size 5 1 v' (nl + 1) (Lb.map B.u8v ++ [B.u8v b])) (hg : (W.alloc o).grownBy W' vl.ownBlock) : E4 w W' vs v' vi vn ns (nl + 1) ni nn S (Lb ++ [b]) I D :=
  ⟨own_grown h.s hg (own_own h.l h.s (by decide)), by simpa using ho, own_grown h.i hg (own_own h.l h.i (by decide)), own_grown h.n hg (own_own h.l h.n (by decide)), h.sep, bel_app h.bel (Nat.le_refl _) h.l hg⟩
theorem E4.pushI {b : Bool} (ho : W'.ownsRow w.heap.size 4 1 v' (ni + 1) (I.map Value.bool ++ [.bool b])) (hg : (W.alloc o).grownBy W' vi.ownBlock) (hk : v'.ownBlock = vi.ownBlock ∨ v'.ownBlock = some (W.alloc o).heap.size) : E4 w W' vs vl v' vn ns nl (ni + 1) nn S Lb (I ++ [b]) D := by
  refine ⟨own_grown h.s hg (fun q hq => h.sep q hq), own_grown h.l hg (own_own h.i h.l (by decide)), by simpa using ho, own_grown h.n hg (own_own h.i h.n (by decide)), fun q hq e => ?_, bel_app h.bel (Nat.le_refl _) h.i hg⟩
  rcases hk with hk | hk
  · exact h.sep q hq (hk ▸ e)
  · rw [hk] at e; injection e with e
    have := (h.s.lt q hq).2
    simp at e; omega
theorem E4.pushN {b : Nat} (ho : W'.ownsRow w.heap.size 87 1 v' (nn + 1) (D.map u64v ++ [u64v b])) (hg : (W.alloc o).grownBy W' vn.ownBlock) : E4 w W' vs vl vi v' ns nl ni (nn + 1) S Lb I (D ++ [b]) :=
  ⟨own_grown h.s hg (own_own h.n h.s (by decide)), own_grown h.l hg (own_own h.n h.l (by decide)), own_grown h.i hg (own_own h.n h.i (by decide)), by simpa using ho, h.sep, bel_app h.bel (Nat.le_refl _) h.n hg⟩
end
/-- The labels of the first i nodes. -/
def Lbs (L : List Str) (ks : List (List Span)) (i : Nat) : List Nat := ((allOf L ks).take i).tail.map (labelOf L)
theorem take_more {α : Type} {xs : List α} {i : Nat} {x : α} (h : xs[i]? = some x) : xs.take (i + 1) = xs.take i ++ [x] := by rw [List.take_add_one, h]; rfl
theorem lbs_succ {L : List Str} {ks : List (List Span)} {i : Nat} {x : Span} (hi : 1 ≤ i) (h : (allOf L ks)[i]? = some x) : Lbs L ks (i + 1) = Lbs L ks i ++ [labelOf L x] := by
  unfold Lbs
  rw [take_more h]
  have hl := (List.getElem?_eq_some_iff.1 h).1
  cases hc : (allOf L ks).take i with
  | nil => have := congrArg List.length hc; rw [List.length_take] at this; simp only [List.length_nil] at this; omega
  | cons a b => simp
theorem lbs_all (L : List Str) (ks : List (List Span)) {i : Nat} (h : (allOf L ks).length ≤ i) : Lbs L ks i = ks.flatten.map (labelOf L) := by
  unfold Lbs
  rw [List.take_of_length_le h]
  simp [allOf]
theorem lbs_len {L : List Str} {ks : List (List Span)} {i : Nat} (h : i ≤ (allOf L ks).length) : (Lbs L ks i).length = i - 1 := by
  unfold Lbs
  rw [List.length_map, List.length_tail, List.length_take]
  omega
theorem at_str {L : List Str} {ks : List (List Span)} {j : Nat} {y : Span} (h : (allOf L ks)[j]? = some y) : at_ ((allOf L ks).map (str L)) j = str L y := by
  unfold at_; rw [List.getD_eq_getElem?_getD, List.getElem?_map, h]; rfl
theorem kid_guard {L : List Str} {ks : List (List Span)} (F : Full L ks) {i c : Nat} {s t : ByteArray} (hi : i < ks.length) (hc : c < ks.length) (h1 : 1 + off ks i ≤ c)
    (hs : at_ ((allOf L ks).map (str L)) i = bytesOf s) (ht : at_ ((allOf L ks).map (str L)) c = bytesOf t) : 1 ≤ t.size ∧ ((t.extract 0 (t.size - 1)).toList == s.toList) = decide (c < 1 + off ks (i + 1)) := by
  have hl := F.len
  obtain ⟨x, hx⟩ : ∃ x, (allOf L ks)[i]? = some x := ⟨_, List.getElem?_eq_getElem (by omega)⟩
  obtain ⟨y, hy⟩ : ∃ y, (allOf L ks)[c]? = some y := ⟨_, List.getElem?_eq_getElem (by omega)⟩
  rw [at_str hx] at hs
  rw [at_str hy] at ht
  obtain ⟨p, hp⟩ := F.last_lab (by omega) hy
  refine ⟨?_, ?_⟩
  · rw [← bytesOf_len, ← ht, hp]; simp
  · rw [str_ext_eq, ← bytesOf_len, ← List.dropLast_eq_take, ← ht, ← hs]
    exact decide_eq_decide.2 (F.next_iff hx hy h1)
theorem lev_small {n : Nat} {lv : List ByteArray} {L : List Str} (h : lv.map bytesOf = nodesTo L n) : ∀ s ∈ lv, s.size ≤ n := by
  intro s hs
  rw [← bytesOf_len]
  exact nodesTo_len (by rw [← h]; exact List.mem_map.2 ⟨s, hs, rfl⟩)
theorem own_tf (w : World) : (w.alloc (.cells #[.bool true, .bool false] 4)).ownsRow w.heap.size 4 1 (.slice (some ⟨w.heap.size, 0, none⟩) 2 2) 2 [.bool true, .bool false] := World.ownsRow_lit w #[.bool true, .bool false] 2 (Nat.le_refl _) (by decide) rfl

theorem lbs_one (L : List Str) (ks : List (List Span)) : Lbs L ks (0 + 1) = Lbs L ks 0 := by
  unfold Lbs allOf
  simp
theorem kids_rep (xs : List Span) : xs.map (fun _ => true) = List.replicate xs.length true := by
  induction xs with
  | nil => rfl
  | cons x xs ih => rw [List.map_cons, ih]; rfl
theorem shape_more {ks : List (List Span)} {i r : Nat} {xs : List Span} (h : ks[i]? = some xs) (hr : xs.length = r) : shapeOf (ks.take (i + 1)) = shapeOf (ks.take i) ++ List.replicate r true ++ [false] := by
  rw [take_more h, shapeOf_snoc, kids_rep, hr]
theorem own_low {w : World} {B B' s n : Nat} {e : TypeId} {v : Value} {xs : List Value} (h : w.ownsRow B e s v n xs) (hb : B' ≤ B) : w.ownsRow B' e s v n xs := by
  refine ⟨h.1, ?_⟩
  rcases h.2 with h0 | ⟨g, cap, cur, hv, hbg, hr⟩
  · exact .inl h0
  · exact .inr ⟨g, cap, cur, hv, Nat.le_trans hb hbg, hr⟩
set_option maxHeartbeats 16000000 in
theorem renc11_any (w : World) (A : Option Addr) (n c : Nat) (ss : List ByteArray) (ks : List (List Span)) (F : Full (ss.map bytesOf) ks) (hm : n ≤ 20000) (hz : ∀ s ∈ ss, s.size ≤ maxLen) (hs : Sl w w.heap.size A n (ss.map Value.string)) :
    Calls Try.prog 36 #[.slice A n c] w fun e w' => ∃ v, e = .returned v ∧ PutInv w w' w.heap.size v (codeK (ss.map bytesOf) ks).length (codeK (ss.map bytesOf) ks) := by
  have HFI : Hid (∀ W s, Below w.heap.size w W → Calls Try.prog 29 #[.slice A n c, .string s] W fun e w' => e = .returned (rfindV (ss.map bytesOf) (bytesOf s)) ∧ W = w') := Lib.hid (fun W s hW => rfind_any W w.heap.size A n c ss s (by unfold maxLen; omega) hz (hs.below hW))
  have HND := Lib.hid (rnodes_any w A n c ss hm hz hs)
  have FL := Lib.hid F
  have hfw := F.few
  have hgf := F.good.few
  clear hs hz F
  obtain ⟨L, hL⟩ : ∃ L, ss.map bytesOf = L := ⟨_, rfl⟩
  rw [hL] at HFI HND FL hgf ⊢
  clear hL
  obtain ⟨ib, hib, hb0z, hb1z, hb2z⟩ := info_parts B.infoBool
  obtain ⟨iu, hiu, hu0z, hu1z, hu2z⟩ := info_parts B.infoU8
  obtain ⟨iq, hiq, hq0z, hq1z, hq2z⟩ := info_parts B.infoU64
  go_enter Try.func36, Try.ntmps36
  go_wp2_with fail
  refine HND.out.mono ?_
  rintro e w1 ⟨v1, lv, rfl, hl1, hown1, hB1⟩
  obtain ⟨An, cn, rfl, -, -⟩ := own_shape hown1
  have hlen : lv.length = (allOf L ks).length := by
    have h1 := congrArg List.length hl1
    rw [List.length_map, FL.out.nodes, List.length_map] at h1
    exact h1
  have hsm := lev_small hl1
  obtain ⟨K, hK⟩ : ∃ K, lv.length = K := ⟨_, rfl⟩
  rw [hK] at hlen
  have HST : Hid (∀ W j, Below w1.heap.size w1 W → j < K → StrAt W An ((allOf L ks).map (str L)) j) := Lib.hid (fun W j hW hj => by
    rw [← FL.out.nodes, ← hl1]
    exact strs_at (fun s h => by have := hsm s h; unfold maxLen; omega) ((Sl.of_own hown1).below hW) (by rw [hK]; exact hj))
  have HK := Lib.hid hlen
  have HB1 := Lib.hid hB1
  have hKf : K ≤ 524287 := by rw [hlen, FL.out.len]; exact hfw
  clear hown1 hl1 hlen hsm hB1 hfw
  go_wp2
  have HE0 : Hid (E4 w1 (w1.alloc (.cells #[.bool true, .bool false] 4)) (.slice (some ⟨w1.heap.size, 0, none⟩) 2 2) (.slice none 0 0) (.slice none 0 0) (.slice none 0 0) 2 0 0 0 (shapeOf (ks.take 0)) (Lbs L ks 0) (((allOf L ks).take 0).map (isAt L)) (idsOf L ((allOf L ks).take 0))) := Lib.hid ⟨own_tf w1, ⟨rfl, .inl ⟨rfl, rfl⟩⟩, ⟨rfl, .inl ⟨rfl, rfl⟩⟩, ⟨rfl, .inl ⟨rfl, rfl⟩⟩, (by intro q _ e; cases e), (Below.refl _ _).alloc (Nat.le_refl _) _⟩
  go_loopw [4, 5, 6, 7, 8, 9] (fun vs vl vi vn nx iv wr => ∃ (i ns nl nn o p : Nat), nx = .int .i64 p ∧ iv = .int .i64 i ∧ 1 + o = p ∧ i ≤ K ∧ o < K ∧ 2 + i + o = ns ∧ i - 1 = nl ∧ nn ≤ i ∧ Hid (o = off ks i) ∧ Hid (E4 w1 wr vs vl vi vn ns nl i nn (shapeOf (ks.take i)) (Lbs L ks i) (((allOf L ks).take i).map (isAt L)) (idsOf L ((allOf L ks).take i)))) (fun _ _ _ _ _ iv _ => K - (intOf iv).toNat)
  case atStart =>
    have hK0 : 0 < K := by rw [HK.out]; simp [allOf]
    exact ⟨0, 2, 0, 0, 0, 1, rfl, rfl, rfl, Nat.zero_le _, hK0, rfl, rfl, Nat.le_refl _, Lib.hid (off_zero ks).symm, HE0⟩
  case round =>
    obtain ⟨i, ns, nl, nn, o, p, rfl, rfl, hpo, hi, ho, hns, hnl, hnn, HOF, HE⟩ := hrel
    by_cases hlt : i < K
    · have hb0 : decide ((i : Int) < (K : Int)) = true := by simp; omega
      obtain ⟨x0, hx0⟩ : ∃ x, (allOf L ks)[i]? = some x := ⟨_, List.getElem?_eq_getElem (by rw [← HK.out]; exact hlt)⟩
      obtain ⟨x, xs, hx, hks, -, -, -, hoff, hofl, -⟩ := FL.out.node (FL.out.lt hx0)
      obtain ⟨r, hr⟩ : ∃ r, xs.length = r := ⟨_, rfl⟩
      have hKl : ks.length = K := by rw [HK.out]; exact FL.out.len.symm
      rw [hr, ← HOF.out] at hoff
      have hor : 1 + o + r ≤ K := by omega
      obtain ⟨b, fo, s, hAn, hc1, hats, hssz⟩ := HST.out w1 i (Below.refl _ _) hlt
      subst hAn
      have HCI : Hid (∀ W, Below w1.heap.size w1 W → W.cell? ⟨b, fo + i, none⟩ = some (.string s)) := Lib.hid (fun W hW => (hW.cell (p := ⟨b, fo + i, none⟩) (cell_lt hc1)).trans hc1)
      have HX := Lib.hid hx; have HXS := Lib.hid hks; have HR := Lib.hid hr; have HOFF := Lib.hid hoff; have HKL := Lib.hid hKl; have HATS := Lib.hid hats
      have i3 : (0 : Int) ≤ (i : Int) := by omega
      have i4 : (i : Int) < (K : Int) := by omega
      clear hx0 hx hks hr hoff hofl hKl hc1 hats
      obtain ⟨wo, rfl⟩ : ∃ wo : World, wo = wr := ⟨_, rfl⟩
      go_upto_block 2 with fail
      go_cut [4, 8] (fun vs nx wx => ∃ (m p' : Nat), nx = .int .i64 (p' : Nat) ∧ 1 + o + r = p' ∧ ns + r = m ∧ Hid (E4 w1 wx vs u5 u6 u7 m nl i nn (shapeOf (ks.take i) ++ List.replicate r true) (Lbs L ks i) (((allOf L ks).take i).map (isAt L)) (idsOf L ((allOf L ks).take i))))
      case first =>
        go_wp2_with fail
        go_loopw [4, 8] (fun vs nx wr => ∃ (j m c : Nat), nx = .int .i64 (c : Nat) ∧ 1 + o + j = c ∧ ns + j = m ∧ j ≤ r ∧ Hid (E4 w1 wr vs u5 u6 u7 m nl i nn (shapeOf (ks.take i) ++ List.replicate j true) (Lbs L ks i) (((allOf L ks).take i).map (isAt L)) (idsOf L ((allOf L ks).take i)))) (fun _ nx _ => K - (intOf nx).toNat)
        case atStart => exact ⟨0, ns, p, rfl, by omega, by omega, Nat.zero_le _, Lib.hid (by have h := HE.out; rw [List.replicate_zero, List.append_nil]; exact h)⟩
        case round =>
          obtain ⟨j, m, c, rfl, hcj, hmj, hj, HI⟩ := hrel
          have hcs := HCI.out wr HI.out.bel
          by_cases hcK : c < K
          · have hb1 : decide ((c : Int) < (K : Int)) = true := by simp; omega
            obtain ⟨b', fo', t, hA', hct, hatt, htsz⟩ := HST.out wr c HI.out.bel hcK
            injection hA' with hA'
            injection hA' with hA1 hA2
            subst hA1 hA2
            obtain ⟨ht1, hgd⟩ := kid_guard FL.out (i := i) (c := c) (by rw [HKL.out]; exact hlt) (by rw [HKL.out]; exact hcK) (by rw [← HOF.out]; omega) HATS.out hatt
            rw [HOFF.out] at hgd
            obtain ⟨z, hz⟩ : ∃ z, t.size = z := ⟨_, rfl⟩
            rw [hz] at hgd ht1 htsz
            have hz' : ((t.size : Nat) : Int) = (z : Int) := by rw [hz]
            have i1 : (0 : Int) ≤ (c : Int) := by omega
            have i2 : (c : Int) < (K : Int) := by omega
            have g7 : IntKind.i64.wrap ((z : Int) - 1) = (z : Int) - 1 := IntWalk.i64_in _ (by omega)
            have g3 : (0 : Int) ≤ (z : Int) - 1 := by omega
            have g4 : (z : Int) - 1 ≤ (z : Int) := by omega
            have g5 : ((z : Int) - 1).toNat = z - 1 := by omega
            by_cases hjr : j < r
            · have g6 : ((t.extract 0 (z - 1)).toList == s.toList) = true := by rw [hgd]; simp; omega
              clear hgd hatt hz
              go_wp2
              go_quiet (fail)
              have HI1 := Lib.hid (HI.out.drewN nq)
              obtain ⟨w3, hw3⟩ : ∃ w3, wr.drewN nq = w3 := ⟨_, rfl⟩
              rw [hw3] at HI1 ⊢
              have hs3 := HI1.out.bel.size
              clear hw3 hcs hct
              go_wp2_with (at_builtin; refine wpList_append_own_at _ rfl _ _ 79 rfl w1.heap.size 4 ib (.bool false) 1 1 Try.underlying79 hib hb0z hb1z hb2z rfl (by decide) _ _ _ rfl (HI1.out.s.alloc _) ⟨w3.heap.size, 0, none⟩ 1 1 [_] rfl rfl (cell_one_new _ _ _) B.one_bool (by unfold maxLen; omega) (by omega) (by simp; omega) ?_; intro v4 w4 hown4 hgrow4 _ hat4)
              have HI4 := Lib.hid (HI1.out.pushS hown4 hgrow4 hat4)
              clear hown4 hgrow4 hat4
              go_wp2
              go_roundw
              case rel => exact ⟨j + 1, m + 1, c + 1, by go_num, by omega, by omega, hjr, Lib.hid (by have h := HI4.out; rw [List.replicate_succ', ← List.append_assoc]; exact h)⟩
              case measure => simp [intOf]; omega
            · have g6 : ((t.extract 0 (z - 1)).toList == s.toList) = false := by rw [hgd]; simp; omega
              clear hgd hatt hz
              go_wp2
              go_quiet (fail)
              go_wp2
              go_meet
              exact ⟨m, c, rfl, by omega, by omega, Lib.hid (by have h := HI.out.drewN nq; rw [show r = j by omega]; exact h)⟩
          · have hb1 : decide ((c : Int) < (K : Int)) = false := by simp; omega
            go_wp2
            go_quiet (fail)
            go_wp2
            go_meet
            exact ⟨m, c, rfl, by omega, by omega, Lib.hid (by have h := HI.out.drewN nq; rw [show r = j by omega]; exact h)⟩
      case rest =>
        obtain ⟨m, p', rfl, hpr, hmr, HI⟩ := hcut
        have hsw := HI.out.bel.size
        go_upto_region 14 with (at_builtin; refine wpList_append_own_at _ rfl _ _ 79 rfl w1.heap.size 4 ib (.bool false) 1 1 Try.underlying79 hib hb0z hb1z hb2z rfl (by decide) _ _ _ rfl (HI.out.s.alloc _) ⟨wc.heap.size, 0, none⟩ 1 1 [_] rfl rfl (cell_one_new _ _ _) B.one_bool (by unfold maxLen; omega) (by omega) (by simp; omega) ?_; intro v4 w4 hown4 hgrow4 _ hat4)
        have HI4 := Lib.hid (HI.out.pushS hown4 hgrow4 hat4)
        clear hown4 hgrow4 hat4 hsw
        have hs4 := HI4.out.bel.size
        by_cases hi0 : 0 < i
        · have hd0 : decide ((0 : Int) < (i : Int)) = true := by simp; omega
          have hcs4 := HCI.out w4 HI4.out.bel
          obtain ⟨pp, hpp⟩ := FL.out.last_lab (c := i) (by omega) HX.out
          obtain ⟨lb, hlb⟩ : ∃ lb, labelOf L x = lb := ⟨_, rfl⟩
          rw [lab_of HX.out, hlb] at hpp
          have hbs : bytesOf s = pp ++ [lb] := by rw [← HATS.out, at_str HX.out]; exact hpp
          obtain ⟨d, hd⟩ : ∃ d, pp.length = d := ⟨_, rfl⟩
          have hsd : s.size = d + 1 := by rw [← bytesOf_len, hbs, List.length_append, hd]; rfl
          have hidx := idx_str s d (by rw [hbs, List.length_append, hd]; simp)
          rw [show (bytesOf s).getD d 0 = lb by rw [hbs, List.getD_eq_getElem?_getD, List.getElem?_append_right (by omega), hd, Nat.sub_self]; rfl] at hidx
          have hsz1 : ((s.size : Nat) : Int) = (d : Int) + 1 := by rw [hsd]; rfl
          have gw : IntKind.i64.wrap ((d : Int) + 1 - 1) = (d : Int) := by rw [Int.add_sub_cancel]; exact IntWalk.i64_in _ (by omega)
          have gw2 : (d : Int) + 1 - 1 = (d : Int) := by omega
          have gw3 : IntKind.i64.wrap (d : Int) = (d : Int) := IntWalk.i64_in _ (by omega)
          have HSAL : Hid (∀ o, (w4.alloc o).drew.cell? ⟨b, fo + i, none⟩ = some (.string s)) := Lib.hid (fun o => (World.cell?_alloc_lt w4 o ⟨b, fo + i, none⟩ (cell_lt hcs4)).trans hcs4)
          have HLB := Lib.hid hlb
          clear hpp hbs hd hsd hlb
          go_wp2_with fail
          refine wp_region_held_drew (S := fun w' => w'.cell? ⟨b, fo + i, none⟩ = some (.string s)) (by kernel_rfl) hcs4 (fun hHeld => ?_)
          refine wpAnyH_take (i := 0) (oi := _) (v := ?_) rfl (by kernel_rfl) (by kernel_rfl) (by kernel_rfl) (fun _ _ _ h => h) (Or.inl ⟨by rfl, ?_⟩) hHeld ?_
          rotate_left
          · (intro w hSw; (try dsimp only at hSw); simp only [List.getElem_toArray, List.getElem_cons_zero]; go_simp; try with_reducible rfl)
          simp only [List.getElem_toArray, List.getElem_cons_zero, Act.put, List.setIfInBounds_toArray, List.set_cons_zero, List.set_cons_succ]
          refine wpAnyH_take (i := 1) (oi := _) (v := ?_) rfl (by kernel_rfl) (by kernel_rfl) (by kernel_rfl) (fun _ _ _ h => h) (Or.inl ⟨by rfl, ?_⟩) hHeld ?_
          rotate_left
          · (intro w hSw; (try dsimp only at hSw); simp only [List.getElem_toArray, List.getElem_cons_zero, List.getElem_cons_succ]; go_simp; try with_reducible rfl)
          simp only [List.getElem_toArray, List.getElem_cons_zero, List.getElem_cons_succ, Act.put, List.setIfInBounds_toArray, List.set_cons_zero, List.set_cons_succ]
          refine wpAnyH_take (i := 2) (oi := _) (v := ?_) rfl (by kernel_rfl) (by kernel_rfl) (by kernel_rfl) (fun _ _ _ h => h) (Or.inl ⟨by rfl, ?_⟩) hHeld ?_
          rotate_left
          · (intro w hSw; (try dsimp only at hSw); simp only [List.getElem_toArray, List.getElem_cons_zero, List.getElem_cons_succ]; go_simp; try with_reducible rfl)
          simp only [List.getElem_toArray, List.getElem_cons_zero, List.getElem_cons_succ, Act.put, List.setIfInBounds_toArray, List.set_cons_zero, List.set_cons_succ]
          refine wpAnyH_take (i := 3) (oi := _) (v := ?_) rfl (by kernel_rfl) (by kernel_rfl) (by kernel_rfl) (fun _ _ _ h => h) (Or.inl ⟨by rfl, ?_⟩) hHeld ?_
          rotate_left
          · (intro w hSw; (try dsimp only at hSw); simp only [List.getElem_toArray, List.getElem_cons_zero, List.getElem_cons_succ]; go_simp; try with_reducible rfl)
          simp only [List.getElem_toArray, List.getElem_cons_zero, List.getElem_cons_succ, Act.put, List.setIfInBounds_toArray, List.set_cons_zero, List.set_cons_succ]
          refine wpAnyH_take (i := 4) (oi := _) (v := ?_) rfl (by kernel_rfl) (by kernel_rfl) (by kernel_rfl) (fun _ _ _ h => h) (Or.inl ⟨by rfl, ?_⟩) hHeld ?_
          rotate_left
          · (intro w hSw; (try dsimp only at hSw); simp only [List.getElem_toArray, List.getElem_cons_zero, List.getElem_cons_succ]; go_simp; try with_reducible rfl)
          simp only [List.getElem_toArray, List.getElem_cons_zero, List.getElem_cons_succ, Act.put, List.setIfInBounds_toArray, List.set_cons_zero, List.set_cons_succ]
          refine wpAnyH_take (i := 5) (oi := _) (v := ?_) rfl (by kernel_rfl) (by kernel_rfl) (by kernel_rfl) (fun _ _ _ h => h) (Or.inl ⟨by rfl, ?_⟩) hHeld ?_
          rotate_left
          · (intro w hSw; (try dsimp only at hSw); simp only [List.getElem_toArray, List.getElem_cons_zero, List.getElem_cons_succ]; go_simp; try with_reducible rfl)
          simp only [List.getElem_toArray, List.getElem_cons_zero, List.getElem_cons_succ, Act.put, List.setIfInBounds_toArray, List.set_cons_zero, List.set_cons_succ]
          refine wpAnyH_take (i := 6) (oi := _) (v := ?_) rfl (by kernel_rfl) (by kernel_rfl) (by kernel_rfl) (fun _ _ _ h => h) (Or.inl ⟨by rfl, ?_⟩) hHeld ?_
          rotate_left
          · (intro w hSw; (try dsimp only at hSw); simp only [List.getElem_toArray, List.getElem_cons_zero, List.getElem_cons_succ]; go_simp; try with_reducible rfl)
          simp only [List.getElem_toArray, List.getElem_cons_zero, List.getElem_cons_succ, Act.put, List.setIfInBounds_toArray, List.set_cons_zero, List.set_cons_succ]
          refine wpAnyH_take (i := 7) (oi := _) (v := ?_) rfl (by kernel_rfl) (by kernel_rfl) (by kernel_rfl) (fun _ _ _ h => h) (Or.inl ⟨by rfl, ?_⟩) hHeld ?_
          rotate_left
          · (intro w hSw; (try dsimp only at hSw); simp only [List.getElem_toArray, List.getElem_cons_zero, List.getElem_cons_succ]; go_simp; try with_reducible rfl)
          simp only [List.getElem_toArray, List.getElem_cons_zero, List.getElem_cons_succ, Act.put, List.setIfInBounds_toArray, List.set_cons_zero, List.set_cons_succ]
          refine wpAnyH_take (i := 8) (oi := _) (v := ?_) rfl (by kernel_rfl) (by kernel_rfl) (by kernel_rfl) (fun _ _ _ h => h) (Or.inl ⟨by rfl, ?_⟩) hHeld ?_
          rotate_left
          · (intro w hSw; (try dsimp only at hSw); simp only [List.getElem_toArray, List.getElem_cons_zero, List.getElem_cons_succ]; go_simp; try with_reducible rfl)
          simp only [List.getElem_toArray, List.getElem_cons_zero, List.getElem_cons_succ, Act.put, List.setIfInBounds_toArray, List.set_cons_zero, List.set_cons_succ]
          refine wpAnyH_take (i := 9) (oi := _) (v := ?_) rfl (by kernel_rfl) (by kernel_rfl) (by kernel_rfl) (fun _ _ _ h => h) (Or.inl ⟨by rfl, ?_⟩) hHeld ?_
          rotate_left
          · (intro w hSw; (try dsimp only at hSw); simp only [List.getElem_toArray, List.getElem_cons_zero, List.getElem_cons_succ]; go_simp; try with_reducible rfl)
          simp only [List.getElem_toArray, List.getElem_cons_zero, List.getElem_cons_succ, Act.put, List.setIfInBounds_toArray, List.set_cons_zero, List.set_cons_succ]
          refine wpAnyH_take (i := 10) (oi := _) (v := ?_) rfl (by kernel_rfl) (by kernel_rfl) (by kernel_rfl) (fun _ _ _ h => h) (Or.inl ⟨by rfl, ?_⟩) hHeld ?_
          rotate_left
          · (intro w hSw; (try dsimp only at hSw); simp only [List.getElem_toArray, List.getElem_cons_zero, List.getElem_cons_succ]; go_simp; try with_reducible rfl)
          simp only [List.getElem_toArray, List.getElem_cons_zero, List.getElem_cons_succ, Act.put, List.setIfInBounds_toArray, List.set_cons_zero, List.set_cons_succ]
          refine wpAnyH_take (i := 11) (oi := _) (v := ?_) rfl (by kernel_rfl) (by kernel_rfl) (by kernel_rfl) (fun _ _ _ h => h) (Or.inl ⟨by rfl, ?_⟩) hHeld ?_
          rotate_left
          · (intro w hSw; (try dsimp only at hSw); simp only [List.getElem_toArray, List.getElem_cons_zero, List.getElem_cons_succ]; go_simp; try with_reducible rfl)
          simp only [List.getElem_toArray, List.getElem_cons_zero, List.getElem_cons_succ, Act.put, List.setIfInBounds_toArray, List.set_cons_zero, List.set_cons_succ]
          refine wpAnyH_ready (rs := [12]) (by kernel_rfl) (by simp) ?_
          refine AllReadyH.cons (o := _) rfl (fun K hK => ?_) AllReadyH.nil
          go_simp
          refine hK.out _ _ (HSAL.out _) (fun hHeld => ?_)
          clear hK K
          try simp only [Act.put, List.setIfInBounds_toArray, List.set_cons_zero, List.set_cons_succ]
          refine wpAnyH_ready (rs := [13]) (by kernel_rfl) (by simp) ?_
          refine AllReadyH.cons (o := _) rfl (fun K hK => ?_) AllReadyH.nil
          refine step_append_lies _ (by rfl) _ _ _ (by rfl) w1.heap.size 5 iu (.int .u8 0) 1 1 Try.underlying26 hiu hu0z hu1z hu2z rfl (by omega) u5 nl ((Lbs L ks i).map B.u8v) (by rfl) ((HI4.out.l.alloc _).drew)
            ⟨w4.heap.size, 0, none⟩ 1 1 [.int .u8 (lb : Int)] (by rfl) (by rfl) (cell_one_new _ _ _) one_oneCell (by omega) (by unfold maxLen; omega) (by omega) (by simp; omega) (w4.heap.size + 1) (by simp) ?_
          intro g2 cap2 w5 hown5 hgrow5 hat5 hlt5
          have hg5 : (w4.alloc (.cells #[.int .u8 (lb : Int)] 5)).grownBy w5 (Value.ownBlock u5) := ⟨hgrow5.os, hgrow5.tape, hgrow5.output, hgrow5.size, hgrow5.block⟩
          have HI5 := Lib.hid (HI4.out.pushL hown5 hg5)
          have hS5 := HCI.out w5 HI5.out.bel
          refine hK.out _ _ hS5 (fun hHeld => ?_)
          clear hK K hown5 hgrow5 hat5 hlt5 hg5
          try simp only [Act.put, List.setIfInBounds_toArray]
          refine wpAnyH_take (i := 14) (oi := _) (v := ?_) rfl (by kernel_rfl) (by kernel_rfl) (by kernel_rfl) (fun _ _ _ h => h) (Or.inl ⟨by rfl, ?_⟩) hHeld ?_
          rotate_left
          · (intro w hSw; (try dsimp only at hSw); simp only [List.getElem_toArray, List.getElem_cons_zero, List.getElem_cons_succ]; go_simp; try with_reducible rfl)
          simp only [List.getElem_toArray, List.getElem_cons_zero, List.getElem_cons_succ, Act.put, List.setIfInBounds_toArray, List.set_cons_zero, List.set_cons_succ]
          refine wpAnyH_done (by kernel_rfl) ?_ _
          rw [← HLB.out, ← lbs_succ hi0 HX.out] at HI5
          clear hHeld hS5 hcs4 hidx gw gw2 gw3 hsz1
          obtain ⟨nl5, hnl5⟩ : ∃ nl5, nl + 1 = nl5 := ⟨_, rfl⟩
          rw [hnl5] at HI5
          have hs5 := HI5.out.bel.size
          have hcs5 := HCI.out w5 HI5.out.bel
          have hsx : bytesOf s = str L x := by rw [← HATS.out]; exact at_str HX.out
          have hF1 := HFI.out w5 s (HB1.out.trans (HI5.out.bel.mono HB1.out.size))
          have hfl := (FL.out.ok HX.out).le
          obtain ⟨f, hf⟩ : ∃ f, x.f = f := ⟨_, rfl⟩
          cases ha : isAt L x with
          | true =>
            rw [rfindV_some (k := f) (by rw [FL.out.idx_at HX.out hsx.symm, ha, ← hf]; rfl)] at hF1
            have hf2 := (isAt_str ha).1
            rw [hf] at hf2
            have HA := Lib.hid ha; have HF := Lib.hid hf
            have HF1 := Lib.hid hF1
            have gge : decide ((0 : Int) ≤ (f : Int)) = true := by simp
            have gw : IntKind.u64.wrap (f : Int) = (f : Int) := B.wrap_u64_small f (by omega)
            clear hF1 ha hf hfl hsx
            go_wp2_with fail
            refine HF1.out.mono ?_
            rintro e w6 ⟨rfl, rfl⟩
            go_upto_region 19 with (at_builtin; refine wpList_append_own_at _ rfl _ _ 79 rfl w1.heap.size 4 ib (.bool false) 1 1 Try.underlying79 hib hb0z hb1z hb2z rfl (by decide) _ _ _ rfl (HI5.out.i.alloc _) ⟨w5.heap.size, 0, none⟩ 1 1 [_] rfl rfl (cell_one_new _ _ _) B.one_bool (by unfold maxLen; omega) (by omega) (by simp; omega) ?_; intro v7 w7 hown7 hgrow7 _ hat7)
            have HI7 := Lib.hid (HI5.out.pushI hown7 hgrow7 hat7)
            clear hown7 hgrow7 hat7
            have hs7 := HI7.out.bel.size
            go_wp2_with (at_builtin; refine wpList_append_own _ rfl _ _ 80 rfl w1.heap.size 87 iq (.int .u64 0) 1 8 Try.underlying80 hiq hq0z hq1z hq2z rfl (by decide) _ _ _ rfl (HI7.out.n.alloc _) ⟨w7.heap.size, 0, none⟩ 1 1 [_] rfl rfl (cell_one_new _ _ _) one_oneCell (by unfold maxLen; omega) (by omega) (by simp; omega) ?_; intro v8 w8 hown8 hgrow8 _)
            have HI8 := Lib.hid (HI7.out.pushN (b := f) hown8 hgrow8)
            clear hown8 hgrow8
            go_wp2
            go_roundw
            case rel => exact ⟨i + 1, m + 1, nl5, nn + 1, o + r, p', rfl, by go_num, by omega, hlt, by omega, by omega, by omega, by omega, Lib.hid HOFF.out.symm, Lib.hid (by
              have h := HI8.out
              rw [shape_more HXS.out HR.out, take_more HX.out, List.map_append, idsOf_snoc, HA.out, if_pos rfl, List.map_cons, HA.out, HF.out]
              exact h)⟩
            case measure => simp [intOf]; omega
          | false =>
            rw [rfindV_none (by rw [FL.out.idx_at HX.out hsx.symm, ha]; rfl)] at hF1
            have HA := Lib.hid ha
            have HF1 := Lib.hid hF1
            clear hF1 ha hf hfl hsx
            go_wp2_with fail
            refine HF1.out.mono ?_
            rintro e w6 ⟨rfl, rfl⟩
            go_wp2_with (at_builtin; refine wpList_append_own_at _ rfl _ _ 79 rfl w1.heap.size 4 ib (.bool false) 1 1 Try.underlying79 hib hb0z hb1z hb2z rfl (by decide) _ _ _ rfl (HI5.out.i.alloc _) ⟨w5.heap.size, 0, none⟩ 1 1 [_] rfl rfl (cell_one_new _ _ _) B.one_bool (by unfold maxLen; omega) (by omega) (by simp; omega) ?_; intro v7 w7 hown7 hgrow7 _ hat7)
            have HI7 := Lib.hid (HI5.out.pushI hown7 hgrow7 hat7)
            clear hown7 hgrow7 hat7
            go_wp2
            go_roundw
            case rel => exact ⟨i + 1, m + 1, nl5, nn, o + r, p', rfl, by go_num, by omega, hlt, by omega, by omega, by omega, by omega, Lib.hid HOFF.out.symm, Lib.hid (by
              have h := HI7.out
              rw [shape_more HXS.out HR.out, take_more HX.out, List.map_append, idsOf_snoc, HA.out, if_neg (by simp), List.append_nil, List.map_cons, HA.out]
              exact h)⟩
            case measure => simp [intOf]; omega
        · have hd0 : decide ((0 : Int) < (i : Int)) = false := by simp; omega
          have e0 : Lbs L ks (i + 1) = Lbs L ks i := by rw [show i = 0 by omega]; exact lbs_one L ks
          have HI5 := Lib.hid HI4.out
          rw [← e0] at HI5
          obtain ⟨w5, hw5⟩ : ∃ w5 : World, w4 = w5 := ⟨_, rfl⟩
          rw [hw5] at HI5 ⊢
          clear hw5 HI4 hs4
          obtain ⟨nl5, hnl5⟩ : ∃ nl5, nl = nl5 := ⟨_, rfl⟩
          rw [hnl5] at HI5
          clear e0
          have hs5 := HI5.out.bel.size
          have hcs5 := HCI.out w5 HI5.out.bel
          have hsx : bytesOf s = str L x := by rw [← HATS.out]; exact at_str HX.out
          have hF1 := HFI.out w5 s (HB1.out.trans (HI5.out.bel.mono HB1.out.size))
          have hfl := (FL.out.ok HX.out).le
          obtain ⟨f, hf⟩ : ∃ f, x.f = f := ⟨_, rfl⟩
          cases ha : isAt L x with
          | true =>
            rw [rfindV_some (k := f) (by rw [FL.out.idx_at HX.out hsx.symm, ha, ← hf]; rfl)] at hF1
            have hf2 := (isAt_str ha).1
            rw [hf] at hf2
            have HA := Lib.hid ha; have HF := Lib.hid hf
            have HF1 := Lib.hid hF1
            have gge : decide ((0 : Int) ≤ (f : Int)) = true := by simp
            have gw : IntKind.u64.wrap (f : Int) = (f : Int) := B.wrap_u64_small f (by omega)
            clear hF1 ha hf hfl hsx
            go_wp2_with fail
            refine HF1.out.mono ?_
            rintro e w6 ⟨rfl, rfl⟩
            go_upto_region 19 with (at_builtin; refine wpList_append_own_at _ rfl _ _ 79 rfl w1.heap.size 4 ib (.bool false) 1 1 Try.underlying79 hib hb0z hb1z hb2z rfl (by decide) _ _ _ rfl (HI5.out.i.alloc _) ⟨w5.heap.size, 0, none⟩ 1 1 [_] rfl rfl (cell_one_new _ _ _) B.one_bool (by unfold maxLen; omega) (by omega) (by simp; omega) ?_; intro v7 w7 hown7 hgrow7 _ hat7)
            have HI7 := Lib.hid (HI5.out.pushI hown7 hgrow7 hat7)
            clear hown7 hgrow7 hat7
            have hs7 := HI7.out.bel.size
            go_wp2_with (at_builtin; refine wpList_append_own _ rfl _ _ 80 rfl w1.heap.size 87 iq (.int .u64 0) 1 8 Try.underlying80 hiq hq0z hq1z hq2z rfl (by decide) _ _ _ rfl (HI7.out.n.alloc _) ⟨w7.heap.size, 0, none⟩ 1 1 [_] rfl rfl (cell_one_new _ _ _) one_oneCell (by unfold maxLen; omega) (by omega) (by simp; omega) ?_; intro v8 w8 hown8 hgrow8 _)
            have HI8 := Lib.hid (HI7.out.pushN (b := f) hown8 hgrow8)
            clear hown8 hgrow8
            go_wp2
            go_roundw
            case rel => exact ⟨i + 1, m + 1, nl5, nn + 1, o + r, p', rfl, by go_num, by omega, hlt, by omega, by omega, by omega, by omega, Lib.hid HOFF.out.symm, Lib.hid (by
              have h := HI8.out
              rw [shape_more HXS.out HR.out, take_more HX.out, List.map_append, idsOf_snoc, HA.out, if_pos rfl, List.map_cons, HA.out, HF.out]
              exact h)⟩
            case measure => simp [intOf]; omega
          | false =>
            rw [rfindV_none (by rw [FL.out.idx_at HX.out hsx.symm, ha]; rfl)] at hF1
            have HA := Lib.hid ha
            have HF1 := Lib.hid hF1
            clear hF1 ha hf hfl hsx
            go_wp2_with fail
            refine HF1.out.mono ?_
            rintro e w6 ⟨rfl, rfl⟩
            go_wp2_with (at_builtin; refine wpList_append_own_at _ rfl _ _ 79 rfl w1.heap.size 4 ib (.bool false) 1 1 Try.underlying79 hib hb0z hb1z hb2z rfl (by decide) _ _ _ rfl (HI5.out.i.alloc _) ⟨w5.heap.size, 0, none⟩ 1 1 [_] rfl rfl (cell_one_new _ _ _) B.one_bool (by unfold maxLen; omega) (by omega) (by simp; omega) ?_; intro v7 w7 hown7 hgrow7 _ hat7)
            have HI7 := Lib.hid (HI5.out.pushI hown7 hgrow7 hat7)
            clear hown7 hgrow7 hat7
            go_wp2
            go_roundw
            case rel => exact ⟨i + 1, m + 1, nl5, nn, o + r, p', rfl, by go_num, by omega, hlt, by omega, by omega, by omega, by omega, Lib.hid HOFF.out.symm, Lib.hid (by
              have h := HI7.out
              rw [shape_more HXS.out HR.out, take_more HX.out, List.map_append, idsOf_snoc, HA.out, if_neg (by simp), List.append_nil, List.map_cons, HA.out]
              exact h)⟩
            case measure => simp [intOf]; omega
    · obtain rfl : i = K := by omega
      have hb0 : decide ((i : Int) < (i : Int)) = false := by simp
      have hkl : ks.length = i := by rw [HK.out]; exact FL.out.len.symm
      have hE := HE.out
      rw [List.take_of_length_le (by omega), lbs_all L ks (by rw [← HK.out]; exact Nat.le_refl _), List.take_of_length_le (by rw [← HK.out]; exact Nat.le_refl _)] at hE
      have hsC := shapeC_len FL.out
      have hmC := marksC_len FL.out
      have hlC := labsC_len FL.out
      have hiC := idsC_len FL.out
      have HCL := Lib.hid (codeK_len L ks)
      have HCD : Hid (codeK L ks = partL (shapeC ks) ++ partL (labsC L ks) ++ partL (marksC L ks) ++ partL (idsC L ks)) := Lib.hid rfl
      obtain ⟨As, cs, rfl, -, -⟩ := own_shape hE.s
      obtain ⟨Al, cl, rfl, -, -⟩ := own_shape hE.l
      obtain ⟨Ai, ci, rfl, -, -⟩ := own_shape hE.i
      obtain ⟨Aq, cq, rfl, -, -⟩ := own_shape hE.n
      have hls := own_len hE.s
      have hll := own_len hE.l
      have hli := own_len hE.i
      have hln := own_len hE.n
      rw [List.length_map] at hls hll hli hln
      have HE1 : Hid (∀ W, Below wr.heap.size wr W → Calls Try.prog 60 #[.slice As ns cs] W fun e w' => ∃ v, e = .returned v ∧ PutInv W w' W.heap.size v (shapeC ks).length (shapeC ks)) := Lib.hid (fun W hW => by
        have h1 := B.rbenc_any W As ns cs (shapeOf ks) (by omega) (((Sl.of_own hE.s).below hW).more hW.size)
        have e1 : B.bcode ns (bitsN (shapeOf ks)) = shapeC ks := by unfold shapeC; rw [hls]
        rw [← bcode_len ns (bitsN (shapeOf ks)), e1] at h1
        exact h1)
      have HE2 : Hid (∀ W, Below wr.heap.size wr W → Calls Try.prog 60 #[.slice Ai i ci] W fun e w' => ∃ v, e = .returned v ∧ PutInv W w' W.heap.size v (marksC L ks).length (marksC L ks)) := Lib.hid (fun W hW => by
        have h1 := B.rbenc_any W Ai i ci ((allOf L ks).map (isAt L)) (by omega) (((Sl.of_own hE.i).below hW).more hW.size)
        have e1 : B.bcode i (bitsN ((allOf L ks).map (isAt L))) = marksC L ks := by unfold marksC; rw [hkl]
        rw [← bcode_len i (bitsN ((allOf L ks).map (isAt L))), e1] at h1
        exact h1)
      have HE4 : Hid (∀ W, Below wr.heap.size wr W → Calls Try.prog 61 #[.slice Aq nn cq] W fun e w' => ∃ v, e = .returned v ∧ w'.ownsRow W.heap.size 5 1 v (idsC L ks).length ((idsC L ks).map B.u8v) ∧ Below W.heap.size W w') := Lib.hid (fun W hW =>
        renc_walk W Aq nn cq (idsOf L (allOf L ks)) (by omega) (idsOf_lt FL.out.good (fun x hx => FL.out.bfs.ok FL.out.good x hx)) (((Sl.of_own hE.n).below hW).more hW.size))
      have HLB : Hid (∀ W, Below wr.heap.size wr W → Sl W wr.heap.size Al nl ((labsC L ks).map B.u8v)) := Lib.hid (fun W hW => (Sl.of_own hE.l).below hW)
      have HLA : Hid (∀ a, Al = some a → 0 < nl → a.block < wr.heap.size) := Lib.hid (fun a ha h0 => by
        obtain ⟨b, off, e, hb, _⟩ := (Sl.of_own hE.l).2 h0
        rw [e] at ha; injection ha with ha; rw [← ha]; exact hb)
      have HBW := Lib.hid (HB1.out.trans (hE.bel.mono HB1.out.size))
      have hww := HBW.out.size
      have hnlC : nl = (labsC L ks).length := hll.symm
      have HNL := Lib.hid hnlC
      clear hE hls hll hli hln hkl hnlC
      obtain ⟨n1, hn1⟩ : ∃ n1, (shapeC ks).length = n1 := ⟨_, rfl⟩
      obtain ⟨n3, hn3⟩ : ∃ n3, (marksC L ks).length = n3 := ⟨_, rfl⟩
      obtain ⟨n4, hn4⟩ : ∃ n4, (idsC L ks).length = n4 := ⟨_, rfl⟩
      have HN1 := Lib.hid hn1; have HN3 := Lib.hid hn3; have HN4 := Lib.hid hn4
      rw [hn1, hn3, hn4, ← HNL.out] at HCL
      rw [hn1] at hsC HE1
      rw [hn3] at hmC HE2
      rw [hn4] at hiC HE4
      clear hn1 hn3 hn4 hlC
      go_wp2_with fail
      refine (HE1.out wr (Below.refl _ _)).mono ?_
      rintro e x1 ⟨v1, rfl, hown1, hB1⟩
      obtain ⟨A1, d1, rfl, -, -⟩ := own_shape hown1
      have HP1 := Lib.hid (rpart_any x1 wr.heap.size (.slice none 0 0) 0 [] A1 n1 d1 (shapeC ks) hB1.size (by omega) (by omega) ⟨rfl, .inl ⟨rfl, rfl⟩⟩ (Sl.of_own hown1) (fun a _ _ e => by cases e))
      have HB1 := Lib.hid hB1
      clear hown1 hB1
      go_wp2_with fail
      refine HP1.out.mono ?_
      rintro e x2 ⟨v2, rfl, hown2, hB2⟩
      rw [List.nil_append, HN1.out, Nat.zero_add] at hown2
      have HB2 := Lib.hid (HB1.out.trans hB2)
      have HO2 := Lib.hid hown2
      have HP2 := Lib.hid (rpart_any x2 wr.heap.size v2 (4 + n1) (partL (shapeC ks)) Al nl cl (labsC L ks) HB2.out.size (by omega) (by omega) HO2.out ((HLB.out x2 HB2.out).more HB2.out.size) (sep_lt HO2.out (fun a ha h0 => .inr (HLA.out a ha h0))))
      clear hown2 hB2
      go_wp2_with fail
      refine HP2.out.mono ?_
      rintro e x3 ⟨v3, rfl, hown3, hB3⟩
      rw [← HNL.out] at hown3
      have HB3 := Lib.hid (HB2.out.trans hB3)
      have HO3 := Lib.hid hown3
      clear hown3 hB3
      go_wp2_with fail
      refine (HE2.out x3 HB3.out).mono ?_
      rintro e x4 ⟨v4, rfl, hown4, hB4⟩
      obtain ⟨A4, d4, rfl, -, -⟩ := own_shape hown4
      have HB4 := Lib.hid (HB3.out.trans (hB4.mono HB3.out.size))
      have HO4 := Lib.hid (own_below HO3.out hB4 (fun k hk => (HO3.out.lt k hk).2))
      have HP4 := Lib.hid (rpart_any x4 wr.heap.size v3 (4 + n1 + 4 + nl) (partL (shapeC ks) ++ partL (labsC L ks)) A4 n3 d4 (marksC L ks) HB4.out.size (by omega) (by omega) HO4.out (Sl.of_own hown4) (fun a ha _ e => by
        have h1 := own_from hown4 a ha
        have h2 := (HO3.out.lt _ e).2
        omega))
      clear hown4 hB4
      go_wp2_with fail
      refine HP4.out.mono ?_
      rintro e x5 ⟨v5, rfl, hown5, hB5⟩
      rw [HN3.out] at hown5
      have HB5 := Lib.hid (HB4.out.trans hB5)
      have HO5 := Lib.hid hown5
      clear hown5 hB5
      go_wp2_with fail
      refine (HE4.out x5 HB5.out).mono ?_
      rintro e x6 ⟨v6, rfl, hown6, hB6⟩
      obtain ⟨A6, d6, rfl, -, -⟩ := own_shape hown6
      have HB6 := Lib.hid (HB5.out.trans (hB6.mono HB5.out.size))
      have HO6 := Lib.hid (own_below HO5.out hB6 (fun k hk => (HO5.out.lt k hk).2))
      have HP6 := Lib.hid (rpart_any x6 wr.heap.size v5 (4 + n1 + 4 + nl + 4 + n3) (partL (shapeC ks) ++ partL (labsC L ks) ++ partL (marksC L ks)) A6 n4 d6 (idsC L ks) HB6.out.size (by omega) (by omega) HO6.out (Sl.of_own hown6) (fun a ha _ e => by
        have h1 := own_from hown6 a ha
        have h2 := (HO5.out.lt _ e).2
        omega))
      clear hown6 hB6
      go_wp2_with fail
      refine HP6.out.mono ?_
      rintro e x7 ⟨v7, rfl, hown7, hB7⟩
      rw [HN4.out] at hown7
      have HB7 := Lib.hid (HB6.out.trans hB7)
      have HO7 := Lib.hid (own_low hown7 hww)
      clear hown7 hB7
      go_wp2
      go_ret
      refine ⟨_, rfl, ?_, HBW.out.trans (HB7.out.mono hww)⟩
      rw [HCL.out, HCD.out, show 4 + n1 + (4 + nl) + (4 + n3) + (4 + n4) = 4 + n1 + 4 + nl + 4 + n3 + 4 + n4 by omega]
      exact HO7.out
end Go.Proofs.Ytpnkjfjkeoleaaa.LD
