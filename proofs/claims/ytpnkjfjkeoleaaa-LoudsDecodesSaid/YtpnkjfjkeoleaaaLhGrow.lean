/- louds, the reference of layer 11: grow. -/
import Derived.Test.YtpnkjfjkeoleaaaLhParts
import Derived.Test.YtpnkjfjkeoleaaaLcRef
import Derived.Deep.AppendLies
import Derived.Deep.RegionHeld3
set_option linter.unusedVariables false
set_option maxRecDepth 100000
namespace Go.Proofs.Ytpnkjfjkeoleaaa.LD
open Go.RowKit HK
open Go.Proofs.Ytpnkjfjkeoleaaa.B (bytesOf bytesOf_len bytesOf_lt)

/-- What the reference's grow returns. -/
def RGrowPost (w : World) (sh : List Bool) (lab : List Nat) (e : Ending) (w' : World) : Prop :=
  Below w.heap.size w w' ∧ ∃ (A : Option Addr) (n c : Nat) (ss : List ByteArray) (ok : Bool), e = .returned (.tuple #[.slice A n c, .bool ok]) ∧ n ≤ lab.length + 1 ∧ Sl w' w'.heap.size A n (ss.map Value.string) ∧ (∀ s ∈ ss, s.size ≤ 256) ∧
    ∀ L ks, Full L ks → sh = shapeOf ks → lab = labsC L ks → ok = true ∧ ss.map bytesOf = (allOf L ks).map (str L)
theorem bool_at {w : World} {B : Nat} {b off n : Nat} {l : List Bool} (hs : Sl w B (some ⟨b, off, none⟩) n (l.map Value.bool)) {k : Nat} (hk : k < n) :
    ∃ v, l[k]? = some v ∧ w.cell? ⟨b, off + k, none⟩ = some (.bool v) ∧ b < B := by
  obtain ⟨b', off', u, he, hb, hu, hcu⟩ := hs.at_ hk
  injection he with he
  injection he with he1 he2
  subst he1 he2
  rw [List.getElem?_map] at hu
  obtain ⟨v, hv, rfl⟩ := Option.map_eq_some_iff.1 hu
  exact ⟨v, hv, hcu, hb⟩
theorem row_str {w : World} {B n g c k : Nat} {e : TypeId} {nl : List ByteArray} (h : w.ownsRow B e 1 (.slice (some ⟨g, 0, none⟩) n c) n (nl.map Value.string)) (hl : nl.length = n) (hk : k < n) : ∃ s, nl[k]? = some s ∧ w.cell? ⟨g, k, none⟩ = some (.string s) := by
  obtain ⟨s, hs⟩ : ∃ s, nl[k]? = some s := ⟨_, List.getElem?_eq_getElem (by rw [hl]; exact hk)⟩
  exact ⟨s, hs, by rw [h.cellAt k (by omega), List.getElem?_map, hs]; rfl⟩

theorem bytesOf_app (a b : ByteArray) : bytesOf (a ++ b) = bytesOf a ++ bytesOf b := by
  unfold B.bytesOf
  rw [ByteArray.data_append, Array.toList_append, List.map_append]
set_option maxHeartbeats 16000000 in
theorem rgrow_any (w : World) (As Al : Option Addr) (ns cs nl cl : Nat) (sh : List Bool) (lab : List Nat) (hns : ns ≤ 1048576) (hnl : nl ≤ 20000) (hlc : nl ≤ cl) (hcl : cl ≤ maxLen) (hlt : ∀ v ∈ lab, v < 256) (hS : Sl w w.heap.size As ns (sh.map Value.bool)) (hL : Sl w w.heap.size Al nl (lab.map B.u8v)) :
    Calls Try.prog 65 #[.slice As ns cs, .slice Al nl cl] w (RGrowPost w sh lab) := by
  have hsl : sh.length = ns := by have := hS.1; simpa using this
  have hll : lab.length = nl := by have := hL.1; simpa using this
  have HNO2 : Hid (ns < 2 → ∀ L ks, Full L ks → sh = shapeOf ks → False) := Lib.hid (fun h L ks F e => by
    have h1 := shape_len' F
    rw [← e, hsl] at h1
    have := F.pos
    omega)
  have HSS := Lib.hid hS; have HLL := Lib.hid hL; have HLT := Lib.hid hlt; have HSL := Lib.hid hsl; have HLN := Lib.hid hll
  unfold maxLen at hcl
  clear hS hL hlt hsl hll
  by_cases hn2 : ns < 2
  · have g1 : decide ((ns : Int) < 2) = true := by simp; omega
    go_enter Try.func65, Try.ntmps65
    go_wp2
    go_ret2
    exact ⟨(Below.refl _ _).alloc (Nat.le_refl _) _, none, 0, 0, [], false, rfl, by omega, sl_nil _ _, fun s h => (by cases h), fun L ks F e _ => (HNO2.out hn2 L ks F e).elim⟩
  have g1 : decide ((ns : Int) < 2) = false := by simp; omega
  obtain ⟨bs0, os, rfl⟩ := sl_some HSS.out (by omega)
  obtain ⟨t0, ht0, ca0, hb0⟩ := bool_at HSS.out (k := 0) (by omega)
  obtain ⟨t1, ht1, ca1, -⟩ := bool_at HSS.out (k := 1) (by omega)
  rw [Nat.add_zero] at ca0
  have k0 : ∀ o, (w.alloc o).cell? ⟨bs0, os, none⟩ = some (.bool t0) := fun o => (World.cell?_alloc_lt w o ⟨bs0, os, none⟩ hb0).trans ca0
  have k1 : ∀ o, (w.alloc o).cell? ⟨bs0, os + 1, none⟩ = some (.bool t1) := fun o => (World.cell?_alloc_lt w o ⟨bs0, os + 1, none⟩ hb0).trans ca1
  have i0 : (0 : Int) < (ns : Int) := by omega
  have i1 : (1 : Int) < (ns : Int) := by omega
  have HT : Hid (∀ ks, sh = shapeOf ks → t0 = true ∧ t1 = false) := Lib.hid (fun ks e => by
    have h := shape_pos ks
    rw [← e, ht0, ht1] at h
    exact ⟨by injection h.1, by injection h.2⟩)
  clear ht0 ht1 hb0
  by_cases hbad : t0 = true ∧ t1 = false
  case neg =>
    have HB0 : Hid (¬ (t0 = true ∧ t1 = false)) := Lib.hid hbad
    go_enter Try.func65, Try.ntmps65
    cases t0 <;> cases t1 <;> simp at hbad <;> clear hbad <;>
    · go_wp2
      go_ret2
      exact ⟨(Below.refl _ _).alloc (Nat.le_refl _) _, none, 0, 0, [], false, rfl, by omega, sl_nil _ _, fun s h => (by cases h), fun L ks F e _ => (HB0.out (HT.out ks e)).elim⟩
  obtain ⟨rfl, rfl⟩ := hbad
  obtain ⟨ib, hib, hb0z, hb1z, hb2z⟩ := info_parts infoStr
  have HO0 := Lib.hid (own_str1 w)
  go_enter Try.func65, Try.ntmps65
  go_wp2
  clear k0 k1 ca0 ca1 i0 i1
  go_loopw [6, 7, 8] (fun o pv iv wr => ∃ (i M p : Nat) (ss : List ByteArray), pv = .int .i64 p ∧ iv = .int .i64 i ∧ i ≤ M ∧ M ≤ nl + 1 ∧ p ≤ ns ∧ Hid (RG sh lab i p ss ∧ ss.length = M) ∧ Hid (wr.ownsRow w.heap.size 9 1 o M (ss.map Value.string)) ∧ Hid (Below w.heap.size w wr)) (fun _ _ iv _ => nl + 2 - (intOf iv).toNat)
  case atStart => exact ⟨0, 1, 2, [⟨#[]⟩], rfl, rfl, Nat.zero_le _, by omega, by omega, Lib.hid ⟨RG.start _ _, rfl⟩, HO0, Lib.hid ((Below.refl _ _).alloc (Nat.le_refl _) _)⟩
  case round =>
    obtain ⟨i, M, p, ss, rfl, rfl, hiM, hMn, hpn, HR, HO, HB⟩ := hrel
    obtain ⟨Ao, co, rfl, -, -⟩ := own_shape HO.out
    by_cases hlt : i < M
    · have hb1 : decide ((i : Int) < (M : Int)) = true := by simp; omega
      have HJ0 := Lib.hid (HR.out.1.inner (by rw [HR.out.2]; exact hlt))
      obtain ⟨wo, rfl⟩ : ∃ wo : World, wo = wr := ⟨_, rfl⟩
      go_upto_block 2 with fail
      go_cut [6, 7] (fun o pv wx => ∃ (M' p' : Nat) (ss' : List ByteArray), pv = .int .i64 p' ∧ i < M' ∧ M' ≤ nl + 1 ∧ p' ≤ ns ∧ Hid (RJ sh lab i p' ss' ∧ ss'.length = M') ∧ Hid (p' = ns ∨ sh[p']? = some false) ∧ Hid (wx.ownsRow w.heap.size 9 1 o M' (ss'.map Value.string)) ∧ Hid (Below w.heap.size w wx))
      case first =>
        go_wp2_with fail
        go_loopw [6, 7] (fun o pv wr => ∃ (M' p' : Nat) (ss' : List ByteArray), pv = .int .i64 p' ∧ i < M' ∧ M' ≤ nl + 1 ∧ p' ≤ ns ∧ Hid (RJ sh lab i p' ss' ∧ ss'.length = M') ∧ Hid (wr.ownsRow w.heap.size 9 1 o M' (ss'.map Value.string)) ∧ Hid (Below w.heap.size w wr)) (fun _ pv _ => ns - (intOf pv).toNat)
        case atStart => exact ⟨M, p, ss, rfl, hlt, hMn, hpn, Lib.hid ⟨HJ0.out, HR.out.2⟩, HO, HB⟩
        case round =>
          obtain ⟨M', p', ss', rfl, hiM', hMn', hpn', HJ, HO', HB'⟩ := hrel
          obtain ⟨g, co', rfl, hco, hcm⟩ := own_some HO'.out (by omega)
          have hsw := HB'.out.size
          by_cases hp : p' < ns
          · have hb2 : decide ((p' : Int) < (ns : Int)) = true := by simp; omega
            obtain ⟨t, ht, hct0, hbl⟩ := bool_at HSS.out hp
            have hct : wr.cell? ⟨bs0, os + p', none⟩ = some (.bool t) := (HB'.out.cell (p := ⟨bs0, os + p', none⟩) hbl).trans hct0
            have i1 : (0 : Int) ≤ (p' : Int) := by omega
            have i2 : (p' : Int) < (ns : Int) := by omega
            have HTB := Lib.hid ht
            clear ht hct0 hbl
            cases t with
            | false =>
              go_wp2
              go_meet
              exact ⟨M', p', ss', rfl, hiM', hMn', hpn', HJ, Lib.hid (.inr HTB.out), HO', HB'⟩
            | true =>
              obtain ⟨s, hss, hcs⟩ := row_str HO'.out HJ.out.2 hiM'
              have HKID := Lib.hid (HJ.out.1.kid HTB.out hss)
              have hsz := HJ.out.1.sz s (List.mem_of_getElem? hss)
              have i3 : (0 : Int) ≤ (i : Int) := by omega
              have i4 : (i : Int) < (M' : Int) := by omega
              by_cases hML : M' ≤ nl
              case neg =>
                have hb3 : decide ((nl : Int) < (M' : Int)) = true := by simp; omega
                go_wp2
                go_ret2
                exact ⟨HB'.out, none, 0, 0, [], false, rfl, by omega, sl_nil _ _, fun s h => (by cases h), fun L ks F e1 e2 => by
                  have h := (HKID.out L ks F e1 e2).1
                  rw [HJ.out.2, HLN.out] at h
                  omega⟩
              have hb3 : decide ((nl : Int) < (M' : Int)) = false := by simp; omega
              by_cases hz : s.size < 256
              case neg =>
                have hb4 : decide ((256 : Int) ≤ (s.size : Int)) = true := by simp; omega
                go_wp2
                go_ret2
                exact ⟨HB'.out, none, 0, 0, [], false, rfl, by omega, sl_nil _ _, fun s h => (by cases h), fun L ks F e1 e2 => (hz (HKID.out L ks F e1 e2).2.1).elim⟩
              have hb4 : decide ((256 : Int) ≤ (s.size : Int)) = false := by simp; omega
              obtain ⟨k, hk⟩ : ∃ k, k + 1 = M' := ⟨M' - 1, by omega⟩
              obtain ⟨bL, oL, rfl⟩ := sl_some HLL.out (by omega)
              obtain ⟨v, hv⟩ : ∃ v, lab[k]? = some v := ⟨_, List.getElem?_eq_getElem (by rw [HLN.out]; omega)⟩
              have hvl := HLT.out v (List.mem_of_getElem? hv)
              have hsub := B.Sl.subU8 HLL.out k 1 (by omega)
              rw [show (lab.drop k).take 1 = [v] by rw [List.take_one, List.head?_drop, hv]; rfl] at hsub
              have hcv : (convert 26 9 (.slice (some ⟨bL, oL + k, none⟩) 1 (cl - k))).run Try.prog wr.drew = .ok (.string (bs [v])) wr.drew := conv_sl (P := Try.prog) 26 5 9 Try.underlying26 Try.underlying5 Try.underlying9 ((hsub.below HB'.out).drew) _
              have hcsd : wr.drew.cell? ⟨g, i, none⟩ = some (.string s) := hcs
              have gw : IntKind.i64.wrap (k : Int) = (k : Int) := IntWalk.i64_in _ (by omega)
              have gk1 : (M' : Int) - 1 = (k : Int) := by omega
              have gk2 : (k : Int) ≤ (M' : Int) := by omega
              have gk3 : (M' : Int) ≤ (cl : Int) := by omega
              have gk4 : (0 : Int) ≤ (k : Int) := by omega
              have gk5 : M' - k = 1 := by omega
              have gk6 : ¬ cl = k := by omega
              have gk7 : (0 : Int) ≤ (M' : Int) := by omega
              have gk8 : (k : Int) ≤ (cl : Int) := by omega
              have gk9 : (M' : Int) - (k : Int) = 1 := by omega
              have gcat : ¬ 9223372036854775807 < s.size + (bs [v]).size := by rw [bs_size]; simp; omega
              obtain ⟨T, gT⟩ : ∃ T, s ++ bs [v] = T := ⟨_, rfl⟩
              have HTT : Hid (bytesOf T = bytesOf s ++ [v]) := Lib.hid (by rw [← gT, bytesOf_app, B.bytesOf_bs _ (by intro u hu; rw [List.mem_singleton] at hu; rw [hu]; exact hvl)])
              have HJ5 : Hid (RJ sh lab i (p' + 1) (ss' ++ [T])) := Lib.hid (HJ.out.1.step HTB.out hss (by rw [HJ.out.2, show M' - 1 = k by omega]; exact hv) (by rw [HJ.out.2, HLN.out]; exact hML) hz HTT.out)
              clear hv hsub hss
              go_wp2
              refine wp_region_held_drew (S := fun _ => True) (by kernel_rfl) trivial (fun hHeld => ?_)
              refine wpAnyH_take (i := 0) (oi := _) (v := ?_) rfl (by kernel_rfl) (by kernel_rfl) (by kernel_rfl) (fun _ _ _ h => h) (Or.inl ⟨by rfl, ?_⟩) hHeld ?_
              rotate_left
              · (intro w hSw; (try dsimp only at hSw); simp only [List.getElem_toArray, List.getElem_cons_zero]; go_simp; try with_reducible rfl)
              simp only [List.getElem_toArray, List.getElem_cons_zero, Act.put, List.setIfInBounds_toArray, List.set_cons_zero, List.set_cons_succ]
              refine wpAnyH_take (i := 1) (oi := _) (v := ?_) rfl (by kernel_rfl) (by kernel_rfl) (by kernel_rfl) (fun _ _ _ h => h) (Or.inl ⟨by rfl, ?_⟩) hHeld ?_
              rotate_left
              · (intro w hSw; (try dsimp only at hSw); simp only [List.getElem_toArray, List.getElem_cons_zero, List.getElem_cons_succ]; go_simp; try with_reducible rfl)
              simp only [List.getElem_toArray, List.getElem_cons_zero, List.getElem_cons_succ, Act.put, List.setIfInBounds_toArray, List.set_cons_zero, List.set_cons_succ]
              refine wpAnyH_take (i := 2) (oi := _) (v := ?_) rfl (by kernel_rfl) (by kernel_rfl) (by kernel_rfl) (fun _ _ _ h => h) (Or.inl ⟨by rfl, ?_⟩) hHeld ?_
              rotate_left
              · (intro w hSw; (try dsimp only at hSw); simp only [List.getElem_toArray, List.getElem_cons_zero, List.getElem_cons_succ]; go_simp; try with_reducible rfl)
              simp only [List.getElem_toArray, List.getElem_cons_zero, List.getElem_cons_succ, Act.put, List.setIfInBounds_toArray, List.set_cons_zero, List.set_cons_succ]
              refine wpAnyH_take (i := 3) (oi := _) (v := ?_) rfl (by kernel_rfl) (by kernel_rfl) (by kernel_rfl) (fun _ _ _ h => h) (Or.inl ⟨by rfl, ?_⟩) hHeld ?_
              rotate_left
              · (intro w hSw; (try dsimp only at hSw); simp only [List.getElem_toArray, List.getElem_cons_zero, List.getElem_cons_succ]; go_simp; try with_reducible rfl)
              simp only [List.getElem_toArray, List.getElem_cons_zero, List.getElem_cons_succ, Act.put, List.setIfInBounds_toArray, List.set_cons_zero, List.set_cons_succ]
              refine wpAnyH_take (i := 5) (oi := _) (v := ?_) rfl (by kernel_rfl) (by kernel_rfl) (by kernel_rfl) (fun _ _ _ h => h) (Or.inl ⟨by rfl, ?_⟩) hHeld ?_
              rotate_left
              · (intro w hSw; (try dsimp only at hSw); simp only [List.getElem_toArray, List.getElem_cons_zero, List.getElem_cons_succ]; go_simp; try with_reducible rfl)
              simp only [List.getElem_toArray, List.getElem_cons_zero, List.getElem_cons_succ, Act.put, List.setIfInBounds_toArray, List.set_cons_zero, List.set_cons_succ]
              refine wpAnyH_take (i := 6) (oi := _) (v := ?_) rfl (by kernel_rfl) (by kernel_rfl) (by kernel_rfl) (fun _ _ _ h => h) (Or.inl ⟨by rfl, ?_⟩) hHeld ?_
              rotate_left
              · (intro w hSw; (try dsimp only at hSw); simp only [List.getElem_toArray, List.getElem_cons_zero, List.getElem_cons_succ]; go_simp; try with_reducible rfl)
              simp only [List.getElem_toArray, List.getElem_cons_zero, List.getElem_cons_succ, Act.put, List.setIfInBounds_toArray, List.set_cons_zero, List.set_cons_succ]
              refine wpAnyH_take (i := 7) (oi := _) (v := ?_) rfl (by kernel_rfl) (by kernel_rfl) (by kernel_rfl) (fun _ _ _ h => h) (Or.inl ⟨by rfl, ?_⟩) hHeld ?_
              rotate_left
              · (intro w hSw; (try dsimp only at hSw); simp only [List.getElem_toArray, List.getElem_cons_zero, List.getElem_cons_succ]; go_simp; try with_reducible rfl)
              simp only [List.getElem_toArray, List.getElem_cons_zero, List.getElem_cons_succ, Act.put, List.setIfInBounds_toArray, List.set_cons_zero, List.set_cons_succ]
              refine wpAnyH_take (i := 8) (oi := _) (v := ?_) rfl (by kernel_rfl) (by kernel_rfl) (by kernel_rfl) (fun _ _ _ h => h) (Or.inl ⟨by rfl, ?_⟩) hHeld ?_
              rotate_left
              · (intro w hSw; (try dsimp only at hSw); simp only [List.getElem_toArray, List.getElem_cons_zero, List.getElem_cons_succ]; go_simp; try with_reducible rfl)
              simp only [List.getElem_toArray, List.getElem_cons_zero, List.getElem_cons_succ, Act.put, List.setIfInBounds_toArray, List.set_cons_zero, List.set_cons_succ]
              refine wpAnyH_take (i := 9) (oi := _) (v := ?_) rfl (by kernel_rfl) (by kernel_rfl) (by kernel_rfl) (fun _ _ _ h => h) (Or.inl ⟨by rfl, ?_⟩) hHeld ?_
              rotate_left
              · (intro w hSw; (try dsimp only at hSw); simp only [List.getElem_toArray, List.getElem_cons_zero, List.getElem_cons_succ]; go_simp; try with_reducible rfl)
              simp only [List.getElem_toArray, List.getElem_cons_zero, List.getElem_cons_succ, Act.put, List.setIfInBounds_toArray, List.set_cons_zero, List.set_cons_succ]
              refine wpAnyH_take (i := 10) (oi := _) (v := ?_) rfl (by kernel_rfl) (by kernel_rfl) (by kernel_rfl) (fun _ _ _ h => h) (Or.inl ⟨by rfl, ?_⟩) hHeld ?_
              rotate_left
              · (intro w hSw; (try dsimp only at hSw); simp only [List.getElem_toArray, List.getElem_cons_zero, List.getElem_cons_succ]; go_simp; try with_reducible rfl)
              simp only [List.getElem_toArray, List.getElem_cons_zero, List.getElem_cons_succ, Act.put, List.setIfInBounds_toArray, List.set_cons_zero, List.set_cons_succ]
              refine wpAnyH_take (i := 11) (oi := _) (v := ?_) rfl (by kernel_rfl) (by kernel_rfl) (by kernel_rfl) (fun _ _ _ h => h) (Or.inl ⟨by rfl, ?_⟩) hHeld ?_
              rotate_left
              · (intro w hSw; (try dsimp only at hSw); simp only [List.getElem_toArray, List.getElem_cons_zero, List.getElem_cons_succ]; go_simp; try with_reducible rfl)
              simp only [List.getElem_toArray, List.getElem_cons_zero, List.getElem_cons_succ, Act.put, List.setIfInBounds_toArray, List.set_cons_zero, List.set_cons_succ]
              refine wpAnyH_ready (rs := [4, 12]) (by kernel_rfl) (by simp) ?_
              refine AllReadyH.cons (o := _) rfl (fun K hK => ?_) (AllReadyH.cons (o := _) rfl (fun K hK => ?_) AllReadyH.nil)
              · go_simp
                refine hK.out _ _ trivial (fun hHeld => ?_)
                clear hK K
                try simp only [Act.put, List.setIfInBounds_toArray, List.set_cons_zero, List.set_cons_succ]
                refine wpAnyH_ready (rs := [12]) (by kernel_rfl) (by simp) ?_
                refine AllReadyH.cons (o := _) rfl (fun K hK => ?_) AllReadyH.nil
                go_simp
                refine hK.out _ _ (trivial) (fun hHeld => ?_)
                clear hK K
                try simp only [Act.put, List.setIfInBounds_toArray, List.set_cons_zero, List.set_cons_succ]
                refine wpAnyH_take (i := 13) (oi := _) (v := ?_) rfl (by kernel_rfl) (by kernel_rfl) (by kernel_rfl) (fun _ _ _ h => h) (Or.inl ⟨by rfl, ?_⟩) hHeld ?_
                rotate_left
                · (intro w hSw; (try dsimp only at hSw); simp only [List.getElem_toArray, List.getElem_cons_zero, List.getElem_cons_succ]; go_simp; try with_reducible rfl)
                simp only [List.getElem_toArray, List.getElem_cons_zero, List.getElem_cons_succ, Act.put, List.setIfInBounds_toArray, List.set_cons_zero, List.set_cons_succ]
                refine wpAnyH_ready (rs := [14]) (by kernel_rfl) (by simp) ?_
                refine AllReadyH.cons (o := _) rfl (fun K hK => ?_) AllReadyH.nil
                go_simp
                refine hK.out _ _ (trivial) (fun hHeld => ?_)
                clear hK K
                try simp only [Act.put, List.setIfInBounds_toArray, List.set_cons_zero, List.set_cons_succ]
                refine wpAnyH_ready (rs := [15]) (by kernel_rfl) (by simp) ?_
                refine AllReadyH.cons (o := _) rfl (fun K hK => ?_) AllReadyH.nil
                refine step_append_lies _ (by rfl) _ _ _ (by rfl) w.heap.size 9 ib (.string ⟨#[]⟩) 1 16 Try.underlying22 hib hb0z hb1z hb2z rfl (by omega) (.slice (some ⟨g, 0, none⟩) M' co') M' (ss'.map Value.string) (by rfl) ((HO'.out.alloc _).drew)
                  ⟨wr.heap.size, 0, none⟩ 1 1 [.string T] (by rfl) (by rfl) (cell_one_new _ _ _) one_str (by omega) (by unfold maxLen; omega) (by omega) (by simp; omega) (wr.heap.size + 1) (by simp) ?_
                intro g2 cap2 w5 hown5 hgrow5 hat5 hlt5
                have hg5 : (wr.alloc (.cells #[.string T] 9)).grownBy w5 (Value.slice (some ⟨g, 0, none⟩) M' co').ownBlock := ⟨hgrow5.os, hgrow5.tape, hgrow5.output, hgrow5.size, hgrow5.block⟩
                have HB5 := Lib.hid (bel_app HB'.out (Nat.le_refl _) HO'.out hg5)
                have HO5 := Lib.hid hown5
                refine hK.out _ _ trivial (fun hHeld => ?_)
                clear hK K hown5 hgrow5 hat5 hlt5 hg5
                try simp only [Act.put, List.setIfInBounds_toArray]
                refine wpAnyH_take (i := 16) (oi := _) (v := ?_) rfl (by kernel_rfl) (by kernel_rfl) (by kernel_rfl) (fun _ _ _ h => h) (Or.inl ⟨by rfl, ?_⟩) hHeld ?_
                rotate_left
                · (intro w hSw; (try dsimp only at hSw); simp only [List.getElem_toArray, List.getElem_cons_zero, List.getElem_cons_succ]; go_simp; try with_reducible rfl)
                simp only [List.getElem_toArray, List.getElem_cons_zero, List.getElem_cons_succ, Act.put, List.setIfInBounds_toArray, List.set_cons_zero, List.set_cons_succ]
                refine wpAnyH_done (by kernel_rfl) ?_ _
                clear hcv hcsd gw gk1 gk2 gk3 gk4 gk5 gk6 gk7 gk8 gk9 gcat gT
                go_wp2
                go_roundw
                case rel => exact ⟨M' + 1, p' + 1, ss' ++ [T], by go_num, by omega, by omega, by omega, Lib.hid ⟨HJ5.out, by rw [List.length_append, HJ.out.2]; rfl⟩, Lib.hid (by rw [List.map_append]; exact HO5.out), HB5⟩
                case measure => simp [intOf]; omega
              · go_simp
                refine hK.out _ _ trivial (fun hHeld => ?_)
                clear hK K
                try simp only [Act.put, List.setIfInBounds_toArray, List.set_cons_zero, List.set_cons_succ]
                refine wpAnyH_ready (rs := [4]) (by kernel_rfl) (by simp) ?_
                refine AllReadyH.cons (o := _) rfl (fun K hK => ?_) AllReadyH.nil
                go_simp
                refine hK.out _ _ (trivial) (fun hHeld => ?_)
                clear hK K
                try simp only [Act.put, List.setIfInBounds_toArray, List.set_cons_zero, List.set_cons_succ]
                refine wpAnyH_take (i := 13) (oi := _) (v := ?_) rfl (by kernel_rfl) (by kernel_rfl) (by kernel_rfl) (fun _ _ _ h => h) (Or.inl ⟨by rfl, ?_⟩) hHeld ?_
                rotate_left
                · (intro w hSw; (try dsimp only at hSw); simp only [List.getElem_toArray, List.getElem_cons_zero, List.getElem_cons_succ]; go_simp; try with_reducible rfl)
                simp only [List.getElem_toArray, List.getElem_cons_zero, List.getElem_cons_succ, Act.put, List.setIfInBounds_toArray, List.set_cons_zero, List.set_cons_succ]
                refine wpAnyH_ready (rs := [14]) (by kernel_rfl) (by simp) ?_
                refine AllReadyH.cons (o := _) rfl (fun K hK => ?_) AllReadyH.nil
                go_simp
                refine hK.out _ _ (trivial) (fun hHeld => ?_)
                clear hK K
                try simp only [Act.put, List.setIfInBounds_toArray, List.set_cons_zero, List.set_cons_succ]
                refine wpAnyH_ready (rs := [15]) (by kernel_rfl) (by simp) ?_
                refine AllReadyH.cons (o := _) rfl (fun K hK => ?_) AllReadyH.nil
                refine step_append_lies _ (by rfl) _ _ _ (by rfl) w.heap.size 9 ib (.string ⟨#[]⟩) 1 16 Try.underlying22 hib hb0z hb1z hb2z rfl (by omega) (.slice (some ⟨g, 0, none⟩) M' co') M' (ss'.map Value.string) (by rfl) ((HO'.out.alloc _).drew)
                  ⟨wr.heap.size, 0, none⟩ 1 1 [.string T] (by rfl) (by rfl) (cell_one_new _ _ _) one_str (by omega) (by unfold maxLen; omega) (by omega) (by simp; omega) (wr.heap.size + 1) (by simp) ?_
                intro g2 cap2 w5 hown5 hgrow5 hat5 hlt5
                have hg5 : (wr.alloc (.cells #[.string T] 9)).grownBy w5 (Value.slice (some ⟨g, 0, none⟩) M' co').ownBlock := ⟨hgrow5.os, hgrow5.tape, hgrow5.output, hgrow5.size, hgrow5.block⟩
                have HB5 := Lib.hid (bel_app HB'.out (Nat.le_refl _) HO'.out hg5)
                have HO5 := Lib.hid hown5
                refine hK.out _ _ trivial (fun hHeld => ?_)
                clear hK K hown5 hgrow5 hat5 hlt5 hg5
                try simp only [Act.put, List.setIfInBounds_toArray]
                refine wpAnyH_take (i := 16) (oi := _) (v := ?_) rfl (by kernel_rfl) (by kernel_rfl) (by kernel_rfl) (fun _ _ _ h => h) (Or.inl ⟨by rfl, ?_⟩) hHeld ?_
                rotate_left
                · (intro w hSw; (try dsimp only at hSw); simp only [List.getElem_toArray, List.getElem_cons_zero, List.getElem_cons_succ]; go_simp; try with_reducible rfl)
                simp only [List.getElem_toArray, List.getElem_cons_zero, List.getElem_cons_succ, Act.put, List.setIfInBounds_toArray, List.set_cons_zero, List.set_cons_succ]
                refine wpAnyH_done (by kernel_rfl) ?_ _
                clear hcv hcsd gw gk1 gk2 gk3 gk4 gk5 gk6 gk7 gk8 gk9 gcat gT
                go_wp2
                go_roundw
                case rel => exact ⟨M' + 1, p' + 1, ss' ++ [T], by go_num, by omega, by omega, by omega, Lib.hid ⟨HJ5.out, by rw [List.length_append, HJ.out.2]; rfl⟩, Lib.hid (by rw [List.map_append]; exact HO5.out), HB5⟩
                case measure => simp [intOf]; omega
          · have hb2 : decide ((p' : Int) < (ns : Int)) = false := by simp; omega
            go_wp2
            go_meet
            exact ⟨M', p', ss', rfl, hiM', hMn', hpn', HJ, Lib.hid (.inl (by omega)), HO', HB'⟩
      case rest =>
        obtain ⟨M', p', ss', rfl, hiM', hMn', hpn', HJ, HEX, HO', HB'⟩ := hcut
        obtain ⟨g, co', rfl, hco, hcm⟩ := own_some HO'.out (by omega)
        by_cases hp : p' < ns
        · have hb2 : decide ((ns : Int) ≤ (p' : Int)) = false := by simp; omega
          have HRG := Lib.hid (HJ.out.1.done (HEX.out.resolve_left (by omega)))
          go_wp2
          go_roundw
          case rel => exact ⟨i + 1, M', p' + 1, ss', rfl, by go_num, by omega, by omega, by omega, Lib.hid ⟨HRG.out, HJ.out.2⟩, HO', HB'⟩
          case measure => simp [intOf]; omega
        · have hb2 : decide ((ns : Int) ≤ (p' : Int)) = true := by simp; omega
          go_wp2
          go_ret2
          exact ⟨HB'.out, none, 0, 0, [], false, rfl, by omega, sl_nil _ _, fun s h => (by cases h), fun L ks F e1 e2 => (HJ.out.1.off_end (by rw [HSL.out]; omega) L ks F e1 e2).elim⟩
    · obtain rfl : i = M := by omega
      have hb1 : decide ((i : Int) < (i : Int)) = false := by simp
      have HEND : Hid (∀ L ks, Full L ks → sh = shapeOf ks → lab = labsC L ks → p = ns ∧ nl + 1 = i ∧ ss.map bytesOf = (allOf L ks).map (str L)) := Lib.hid (fun L ks F e1 e2 => by
        have h := HR.out.1
        rw [← HR.out.2] at h
        have h2 := h.end_ L ks F e1 e2
        rw [HSL.out, HLN.out, HR.out.2] at h2
        exact h2)
      by_cases hok : p = ns ∧ nl + 1 = i
      · have hb2 : ((p : Int) == (ns : Int)) = true := by rw [beq_iff_eq]; omega
        have hb3 : ((nl : Int) == (i : Int) - 1) = true := by rw [beq_iff_eq]; omega
        go_wp2
        go_ret2
        exact ⟨HB.out, _, _, _, ss, true, rfl, by rw [HLN.out]; omega, Sl.of_own HO.out, HR.out.1.sz, fun L ks F e1 e2 => ⟨rfl, (HEND.out L ks F e1 e2).2.2⟩⟩
      · by_cases hpe : p = ns
        · have hb2 : ((p : Int) == (ns : Int)) = true := by rw [beq_iff_eq]; omega
          have hb3 : ((nl : Int) == (i : Int) - 1) = false := by rw [beq_eq_false_iff_ne]; omega
          go_wp2
          go_ret2
          exact ⟨HB.out, _, _, _, ss, false, rfl, by rw [HLN.out]; omega, Sl.of_own HO.out, HR.out.1.sz, fun L ks F e1 e2 => (hok ⟨(HEND.out L ks F e1 e2).1, (HEND.out L ks F e1 e2).2.1⟩).elim⟩
        · have hb2 : ((p : Int) == (ns : Int)) = false := by rw [beq_eq_false_iff_ne]; omega
          go_wp2
          go_ret2
          exact ⟨HB.out, _, _, _, ss, false, rfl, by rw [HLN.out]; omega, Sl.of_own HO.out, HR.out.1.sz, fun L ks F e1 e2 => (hok ⟨(HEND.out L ks F e1 e2).1, (HEND.out L ks F e1 e2).2.1⟩).elim⟩
end Go.Proofs.Ytpnkjfjkeoleaaa.LD
