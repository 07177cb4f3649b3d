/- louds, the reference of layer 11: Decode. -/
import Derived.Test.YtpnkjfjkeoleaaaLhGrow
import Derived.Test.YtpnkjfjkeoleaaaLcEnc
import Derived.Test.YtpnkjfjkeoleaaaLgDec
import Derived.Test.YtpnkjfjkeoleaaaLrChk
set_option linter.unusedVariables false
set_option maxRecDepth 100000
namespace Go.Proofs.Ytpnkjfjkeoleaaa.LD
open Go.RowKit HK
open Go.Proofs.Ytpnkjfjkeoleaaa.B (bytesOf bytesOf_len bytesOf_lt PutInv)

/-- What the reference's Decode returns: the strings of the set whose code it is. -/
def RDec11Post (w : World) (bl : List Nat) (e : Ending) (w' : World) : Prop :=
  Below w.heap.size w w' ∧ ∃ (A : Option Addr) (n c : Nat) (ok : Bool), e = .returned (.tuple #[.slice A n c, .bool ok]) ∧
    ((ok = true ∧ n ≤ 20000 ∧ ∃ (ss : List ByteArray) (ks : List (List Span)), Sl w' w'.heap.size A n (ss.map Value.string) ∧ (∀ s ∈ ss, s.size ≤ 256) ∧ Full (ss.map bytesOf) ks ∧ codeK (ss.map bytesOf) ks = bl) ∨ (ok = false ∧ ∀ L ks, Full L ks → codeK L ks ≠ bl))
theorem cell_sl {w : World} {B b off n k : Nat} {v : Value} {vs : List Value} (hs : Sl w B (some ⟨b, off, none⟩) n vs) (hn : 0 < n) (hv : vs[k]? = some v) : w.cell? ⟨b, off + k, none⟩ = some v ∧ b < B := by
  obtain ⟨b', off', he, hb, hc⟩ := hs.2 hn
  injection he with he
  injection he with he1 he2
  subst he1 he2
  exact ⟨hc k v hv, hb⟩
theorem u64_at {w : World} {B : Nat} {b off n : Nat} {l : List Nat} (hs : Sl w B (some ⟨b, off, none⟩) n (l.map u64v)) {k : Nat} (hk : k < n) :
    ∃ v, l[k]? = some v ∧ w.cell? ⟨b, off + k, none⟩ = some (.int .u64 (v : Int)) ∧ b < B := by
  obtain ⟨b', off', u, he, hb, hu, hcu⟩ := hs.at_ hk
  injection he with he
  injection he with he1 he2
  subst he1 he2
  rw [List.getElem?_map] at hu
  obtain ⟨v, hv, rfl⟩ := Option.map_eq_some_iff.1 hu
  exact ⟨v, hv, hcu, hb⟩
theorem str_at {w : World} {B : Nat} {b off n : Nat} {l : List ByteArray} (hs : Sl w B (some ⟨b, off, none⟩) n (l.map Value.string)) {k : Nat} (hk : k < n) :
    ∃ v, l[k]? = some v ∧ w.cell? ⟨b, off + k, none⟩ = some (.string v) ∧ b < B := by
  obtain ⟨b', off', u, he, hb, hu, hcu⟩ := hs.at_ hk
  injection he with he
  injection he with he1 he2
  subst he1 he2
  rw [List.getElem?_map] at hu
  obtain ⟨v, hv, rfl⟩ := Option.map_eq_some_iff.1 hu
  exact ⟨v, hv, hcu, hb⟩

set_option maxHeartbeats 32000000 in
theorem rdecode_any (w : World) (A : Option Addr) (n c : Nat) (bl : List Nat) (hn : n ≤ 20000) (hbl : ∀ v ∈ bl, v < 256) (hs : Sl w w.heap.size A n (bl.map B.u8v)) (hnc : n ≤ c) (hcm : c ≤ maxLen) :
    Calls Try.prog 37 #[.slice A n c] w (RDec11Post w bl) := by
  have HPA := Lib.hid (rparts_any w A n c bl hn hbl hs hnc hcm)
  have HBL := Lib.hid hbl
  have HCB : Hid (∀ W, Below w.heap.size w W → (convert 26 9 (.slice A n c)).run Try.prog W = .ok (.string (bs bl)) W) := Lib.hid (fun W hW => conv_sl (P := Try.prog) 26 5 9 Try.underlying26 Try.underlying5 Try.underlying9 (hs.below hW) c)
  unfold maxLen at hcm
  clear hs hbl
  go_enter Try.func37, Try.ntmps37
  go_wp2_with fail
  refine HPA.out.mono ?_
  rintro e w1 ⟨hB1, Ap, np, cp, qs, rfl, hqn, hnp, hsl, hok, hall⟩
  have HB1 := Lib.hid hB1
  by_cases h4 : np = 4
  case neg =>
    have HNO : Hid (∀ L ks, Full L ks → codeK L ks ≠ bl) := Lib.hid (fun L ks F e => by
      have h := hall _ (parts_short F) (by rw [← codeK_cat]; exact e)
      have h2 := congrArg List.length h
      rw [List.length_map, hqn] at h2
      exact h4 h2)
    have g1 : ((np : Int) != 4) = true := by rw [bne_iff_ne]; omega
    clear hqn hsl hok hall hB1
    go_wp2
    go_ret2
    exact ⟨HB1.out, none, 0, 0, false, rfl, .inr ⟨rfl, HNO.out⟩⟩
  subst h4
  match qs, hqn, hsl, hok, hall with
  | [⟨A0, n0, c0, l0⟩, ⟨A1, n1, c1, l1⟩, ⟨A2, n2, c2, l2⟩, ⟨A3, n3, c3, l3⟩], _, hsl, hok, hall =>
    obtain ⟨bp, op, rfl⟩ := sl_some hsl (by omega)
    have HP : Hid (∀ W, Below w1.heap.size w1 W → W.cell? ⟨bp, op, none⟩ = some (.slice A0 n0 c0) ∧ W.cell? ⟨bp, op + 1, none⟩ = some (.slice A1 n1 c1) ∧ W.cell? ⟨bp, op + 2, none⟩ = some (.slice A2 n2 c2) ∧ W.cell? ⟨bp, op + 3, none⟩ = some (.slice A3 n3 c3)) := Lib.hid (fun W hW =>
      ⟨(cell_sl (k := 0) (hsl.below hW) (by omega) rfl).1, (cell_sl (k := 1) (hsl.below hW) (by omega) rfl).1, (cell_sl (k := 2) (hsl.below hW) (by omega) rfl).1, (cell_sl (k := 3) (hsl.below hW) (by omega) rfl).1⟩)
    have HF : Hid (∀ L ks, Full L ks → codeK L ks = bl → l0 = shapeC ks ∧ l1 = labsC L ks ∧ l2 = marksC L ks ∧ l3 = idsC L ks) := Lib.hid (fun L ks F e => by
      have h := hall _ (parts_short F) (by rw [← codeK_cat]; exact e)
      simp only [List.map_cons, List.map_nil, List.cons.injEq, and_true] at h
      exact h)
    have HQ0 := Lib.hid (hok ⟨A0, n0, c0, l0⟩ (by simp)).1
    have HQ1 := Lib.hid (hok ⟨A1, n1, c1, l1⟩ (by simp)).1
    have hn1 : n1 ≤ 20000 := (hok ⟨A1, n1, c1, l1⟩ (by simp)).2
    have HQ2 := Lib.hid (hok ⟨A2, n2, c2, l2⟩ (by simp)).1
    have HQ3 := Lib.hid (hok ⟨A3, n3, c3, l3⟩ (by simp)).1
    clear hsl hok hall hB1
    obtain ⟨p0, -, -, -⟩ := HP.out w1 (Below.refl _ _)
    have HD0 := Lib.hid (rbdec_any w1 A0 n0 c0 l0 HQ0.out.lt ((HQ0.out.sl.below HB1.out).more HB1.out.size) HQ0.out.nc HQ0.out.cm)
    go_wp2_with fail
    refine HD0.out.mono ?_
    rintro e w2 ⟨hB2, As, ns, cs, sh, ok0, rfl, hns, hsh, hc0⟩
    have HC0 := Lib.hid hc0
    have HB12 := Lib.hid hB2
    have HB2 := Lib.hid (HB1.out.trans (hB2.mono HB1.out.size))
    have HSH := Lib.hid hsh
    obtain ⟨-, -, p2, -⟩ := HP.out w2 HB12.out
    have HD2 := Lib.hid (rbdec_any w2 A2 n2 c2 l2 HQ2.out.lt ((HQ2.out.sl.below HB2.out).more HB2.out.size) HQ2.out.nc HQ2.out.cm)
    clear p0 hB2 hc0 hsh
    go_wp2_with fail
    refine HD2.out.mono ?_
    rintro e w3 ⟨hB3, Ai, ni, ci, is, ok2, rfl, hni, his, hc2⟩
    have HC2 := Lib.hid hc2
    have HB23 := Lib.hid hB3
    have HB13 := Lib.hid (HB12.out.trans (hB3.mono HB12.out.size))
    have HB3 := Lib.hid (HB2.out.trans (hB3.mono HB2.out.size))
    have HIS := Lib.hid his
    obtain ⟨-, -, -, p3⟩ := HP.out w3 HB13.out
    have HD3 := Lib.hid (rdec_any w3 A3 n3 c3 l3 HQ3.out.nc HQ3.out.cm HQ3.out.lt ((HQ3.out.sl.below HB3.out).more HB3.out.size))
    clear p2 hB3 hc2 his
    go_wp2_with fail
    refine HD3.out.mono ?_
    rintro e w4 ⟨hB4, Aq, nq, cq, rfl, hq⟩
    have HB34 := Lib.hid hB4
    have HB24 := Lib.hid (HB23.out.trans (hB4.mono HB23.out.size))
    have HB14 := Lib.hid (HB13.out.trans (hB4.mono HB13.out.size))
    have HB4 := Lib.hid (HB3.out.trans (hB4.mono HB3.out.size))
    have HQ := Lib.hid hq
    obtain ⟨ok3, hok3⟩ : ∃ t, decodable l3 = t := ⟨_, rfl⟩
    rw [hok3] at HQ ⊢
    have HOK3 := Lib.hid hok3
    clear p3 hB4 hq hok3
    by_cases hbad : ok0 = true ∧ ok2 = true ∧ ok3 = true
    case neg =>
      have HNO : Hid (∀ L ks, Full L ks → codeK L ks ≠ bl) := Lib.hid (fun L ks F e => hbad (by
        obtain ⟨e0, e1, e2, e3⟩ := HF.out L ks F e
        have hl := shape_len' F
        have hf := F.few
        have hm : ((allOf L ks).map (isAt L)).length = ks.length := by rw [List.length_map, F.len]
        refine ⟨(HC0.out (shapeOf ks) (by omega) e0.symm).1, (HC2.out ((allOf L ks).map (isAt L)) (by omega) (by rw [hm]; exact e2.symm)).1, ?_⟩
        rw [← HOK3.out, e3]; exact (ids_code F).1))
      cases ok0 <;> cases ok2 <;> cases ok3 <;> simp at hbad <;> clear hbad <;>
      · go_wp2
        go_ret2
        exact ⟨HB4.out, none, 0, 0, false, rfl, .inr ⟨rfl, HNO.out⟩⟩
    obtain ⟨rfl, rfl, rfl⟩ := hbad
    have hown := HQ.out rfl
    have hnq : (decodeL l3).length = nq := by have := own_len hown; rwa [List.length_map] at this
    have hnqm : nq ≤ 1048576 := by
      have h := HOK3.out
      unfold decodable at h
      simp only [Bool.and_eq_true, decide_eq_true_eq] at h
      rw [← hnq]
      unfold decodeL
      rw [unpack_length]
      exact h.1.1.1.2
    have h64 : ∀ v ∈ decodeL l3, v < 2 ^ 64 := by
      have h := HOK3.out
      unfold decodable at h
      simp only [Bool.and_eq_true, decide_eq_true_eq] at h
      exact unpack_lt _ _ _ h.1.1.2
    have hqs := Sl.of_own hown
    have HC : Hid (∀ L ks, Full L ks → codeK L ks = bl → sh = shapeOf ks ∧ l1 = labsC L ks ∧ is = (allOf L ks).map (isAt L) ∧ decodeL l3 = idsOf L (allOf L ks)) := Lib.hid (fun L ks F e => by
      obtain ⟨e0, e1, e2, e3⟩ := HF.out L ks F e
      have hl := shape_len' F
      have hf := F.few
      have hm : ((allOf L ks).map (isAt L)).length = ks.length := by rw [List.length_map, F.len]
      exact ⟨(HC0.out (shapeOf ks) (by omega) e0.symm).2, e1, (HC2.out ((allOf L ks).map (isAt L)) (by omega) (by rw [hm]; exact e2.symm)).2, by rw [e3]; exact (ids_code F).2⟩)
    obtain ⟨nums, hnums⟩ : ∃ nums, decodeL l3 = nums := ⟨_, rfl⟩
    rw [hnums] at hnq h64 hqs HC
    have HNQ := Lib.hid hnq; have H64 := Lib.hid h64; have HQS := Lib.hid hqs
    clear hown hnq h64 hqs hnums
    obtain ⟨-, p1, -, -⟩ := HP.out w4 HB14.out
    have HG := Lib.hid (rgrow_any w4 As A1 ns cs n1 c1 sh l1 hns hn1 HQ1.out.nc HQ1.out.cm HQ1.out.lt ((HSH.out.below HB24.out).more HB24.out.size) ((HQ1.out.sl.below HB4.out).more HB4.out.size))
    go_wp2_with fail
    refine HG.out.mono ?_
    rintro e w5 ⟨hB5, An, nn, cn, ss, ok5, rfl, hnn, hsl5, hsz5, hcode5⟩
    have hl1 : l1.length = n1 := by have := HQ1.out.sl.1; simpa using this
    rw [hl1] at hnn
    have HB45 := Lib.hid hB5
    have HB35 := Lib.hid (HB34.out.trans (hB5.mono HB34.out.size))
    have HB5 := Lib.hid (HB4.out.trans (hB5.mono HB4.out.size))
    have HIS5 : Hid (Sl w5 w5.heap.size Ai ni (is.map Value.bool)) := Lib.hid ((HIS.out.below HB35.out).more HB35.out.size)
    have HQS5 : Hid (Sl w5 w5.heap.size Aq nq (nums.map u64v)) := Lib.hid ((HQS.out.below HB45.out).more HB45.out.size)
    have HSS5 := Lib.hid hsl5; have HSZ := Lib.hid hsz5
    have hssl : ss.length = nn := by have := hsl5.1; simpa using this
    have hisl : is.length = ni := by have := HIS.out.1; simpa using this
    have HSSL := Lib.hid hssl
    have HC5 : Hid (∀ L ks, Full L ks → codeK L ks = bl → ok5 = true ∧ ss.map bytesOf = (allOf L ks).map (str L) ∧ is = (allOf L ks).map (isAt L) ∧ nums = idsOf L (allOf L ks)) := Lib.hid (fun L ks F e => by
      obtain ⟨e0, e1, e2, e3⟩ := HC.out L ks F e
      have h := hcode5 L ks F e0 e1
      exact ⟨h.1, h.2, e2, e3⟩)
    have hlens : ∀ L ks, Full L ks → codeK L ks = bl → ni = nn := fun L ks F e => by
      obtain ⟨_, e1, e2, _⟩ := HC5.out L ks F e
      have h1 := congrArg List.length e1
      have h2 := congrArg List.length e2
      rw [List.length_map, List.length_map, hssl] at h1
      rw [List.length_map, hisl] at h2
      omega
    have HLENS := Lib.hid hlens
    clear hB5 hsl5 hsz5 hcode5 hl1 hssl hisl hlens p1
    cases ok5 with
    | false =>
      have HNO : Hid (∀ L ks, Full L ks → codeK L ks ≠ bl) := Lib.hid (fun L ks F e => by have := (HC5.out L ks F e).1; cases this)
      go_wp2
      go_ret2
      exact ⟨HB5.out, none, 0, 0, false, rfl, .inr ⟨rfl, HNO.out⟩⟩
    | true =>
      by_cases hne : ni = nn
      case neg =>
        have g1 : ((ni : Int) != (nn : Int)) = true := by rw [bne_iff_ne]; omega
        have HNO : Hid (∀ L ks, Full L ks → codeK L ks ≠ bl) := Lib.hid (fun L ks F e => hne (HLENS.out L ks F e))
        go_wp2
        go_ret2
        exact ⟨HB5.out, none, 0, 0, false, rfl, .inr ⟨rfl, HNO.out⟩⟩
      subst hne
      have g1 : ((ni : Int) != (ni : Int)) = false := by simp
      have hmks := run_make_strs nq hnqm
      go_wp2
      clear hmks
      have HR0 : Hid (Row (w5.alloc (.cells (madeCells #[.string ⟨#[]⟩] nq) 9)) w5.heap.size 9 ((List.replicate nq (⟨#[]⟩ : ByteArray)).map Value.string).toArray) := Lib.hid (by rw [← made_strs]; exact Row.new _ _ _)
      have HBB0 : Hid (Below w5.heap.size w5 (w5.alloc (.cells (madeCells #[.string ⟨#[]⟩] nq) 9))) := Lib.hid ((Below.refl _ _).alloc (Nat.le_refl _) _)
      have hz5 := HB5.out.size
      obtain ⟨Bl, hBl⟩ : ∃ Bl, w5.heap.size = Bl := ⟨_, rfl⟩
      rw [hBl] at HR0 HBB0 HIS5 HQS5 HSS5 hz5 ⊢
      have HBL5 := Lib.hid hBl
      clear hBl
      go_loopw [14, 15] (fun nv iv wr => ∃ (i m : Nat) (ls : List ByteArray), nv = .int .i64 m ∧ iv = .int .i64 i ∧ i ≤ ni ∧ m ≤ i ∧ Hid (RS is nums ss i m ls) ∧ Hid (Row wr Bl 9 (ls.map Value.string).toArray) ∧ Hid (Below Bl w5 wr)) (fun _ iv _ => ni - (intOf iv).toNat)
      case atStart => exact ⟨0, 0, _, rfl, rfl, Nat.zero_le _, Nat.le_refl _, Lib.hid (RS.start is nums ss), by rw [HNQ.out]; exact HR0, HBB0⟩
      case round =>
        obtain ⟨i, m, ls, rfl, rfl, hi, hmi, HRS, HRW, HBW⟩ := hrel
        have HBA : Hid (Below w.heap.size w wr) := Lib.hid (HB5.out.trans (HBW.out.mono hz5))
        by_cases hlt : i < ni
        · have hb1 : decide ((i : Int) < (ni : Int)) = true := by simp; omega
          obtain ⟨bi, oi, rfl⟩ := sl_some HIS5.out (by omega)
          obtain ⟨t, ht, hct, -⟩ := bool_at (HIS5.out.below HBW.out) hlt
          have HT := Lib.hid ht
          have i1 : (0 : Int) ≤ (i : Int) := by omega
          have i2 : (i : Int) < (ni : Int) := by omega
          clear ht
          cases t with
          | false =>
            have HRS1 := Lib.hid (HRS.out.skip HT.out)
            go_wp2
            go_roundw
            case rel => exact ⟨i + 1, m, ls, rfl, by go_num, by omega, by omega, HRS1, HRW, HBW⟩
            case measure => simp [intOf]; omega
          | true =>
            have HNUM : Hid (∀ L ks, Full L ks → codeK L ks = bl → ∃ x, nums[m]? = some x ∧ x < nq) := Lib.hid (fun L ks F e => by
              obtain ⟨_, e1, e2, e3⟩ := HC5.out L ks F e
              obtain ⟨x, _, _, h1, h2⟩ := HRS.out.num HT.out L ks F e2 e3 e1
              exact ⟨x.f, h1, by rw [← HNQ.out]; exact h2⟩)
            by_cases hmq : m < nq
            case neg =>
              have hb2 : decide ((nq : Int) ≤ (m : Int)) = true := by simp; omega
              have HNO : Hid (∀ L ks, Full L ks → codeK L ks ≠ bl) := Lib.hid (fun L ks F e => by
                obtain ⟨x, h1, _⟩ := HNUM.out L ks F e
                have := (List.getElem?_eq_some_iff.1 h1).1
                rw [HNQ.out] at this
                exact hmq this)
              go_wp2
              go_ret2
              exact ⟨HBA.out, none, 0, 0, false, rfl, .inr ⟨rfl, HNO.out⟩⟩
            have hb2 : decide ((nq : Int) ≤ (m : Int)) = false := by simp; omega
            obtain ⟨bq, oq, rfl⟩ := sl_some HQS5.out (by omega)
            obtain ⟨id, hid, hcq, hbq⟩ := u64_at (HQS5.out.below HBW.out) hmq
            have hid64 := H64.out id (List.mem_of_getElem? hid)
            have HID := Lib.hid hid
            have i3 : (0 : Int) ≤ (m : Int) := by omega
            have i4 : (m : Int) < (nq : Int) := by omega
            have gw : IntKind.u64.wrap (nq : Int) = (nq : Int) := B.wrap_u64_small nq (by omega)
            clear hid
            by_cases hidq : id < nq
            case neg =>
              have hb3 : decide ((nq : Int) ≤ (id : Int)) = true := by simp; omega
              have HNO : Hid (∀ L ks, Full L ks → codeK L ks ≠ bl) := Lib.hid (fun L ks F e => by
                obtain ⟨x, h1, h2⟩ := HNUM.out L ks F e
                rw [HID.out] at h1
                injection h1 with h1
                omega)
              go_wp2
              go_ret2
              exact ⟨HBA.out, none, 0, 0, false, rfl, .inr ⟨rfl, HNO.out⟩⟩
            have hb3 : decide ((nq : Int) ≤ (id : Int)) = false := by simp; omega
            obtain ⟨bn, on, rfl⟩ := sl_some HSS5.out (by omega)
            obtain ⟨s, hss, hcn, -⟩ := str_at (HSS5.out.below HBW.out) hlt
            have HMK : Hid (RS is nums ss (i + 1) (m + 1) (ls.set id s)) := Lib.hid (HRS.out.mark HT.out HID.out (by rw [HNQ.out]; exact hidq) hss (HSZ.out s (List.mem_of_getElem? hss)))
            have HCC : Hid (∀ W, Below Bl w5 W → W.cell? ⟨bq, oq + m, none⟩ = some (.int .u64 (id : Int)) ∧ W.cell? ⟨bn, on + i, none⟩ = some (.string s)) := Lib.hid (fun W hW => by
              obtain ⟨x, h1, h2, _⟩ := u64_at (HQS5.out.below hW) hmq
              rw [HID.out] at h1; injection h1 with h1; subst h1
              obtain ⟨y, g1, g2, _⟩ := str_at (HSS5.out.below hW) hlt
              rw [hss] at g1; injection g1 with g1; subst g1
              exact ⟨h2, g2⟩)
            clear hss
            have hcc := HCC.out wr.drew HBW.out.drew
            have hrl : id < ls.length := by rw [HRS.out.llen, HNQ.out]; exact hidq
            have kci : wr.cell? ⟨Bl, id, none⟩ = some (.string (ls.getD id ⟨#[]⟩)) := by
              rw [HRW.out.cell]
              simp [hrl]
            have kfi := HRW.out.frozen id
            have j1 : (0 : Int) ≤ (id : Int) := by omega
            have j2 : (id : Int) < (nq : Int) := by omega
            have hS4 := HCC.out (wr.drew.setCell ⟨Bl, id, none⟩ (.string s)) ((HBW.out.drew).setCell (p := ⟨Bl, id, none⟩) (Nat.le_refl _) _)
            clear hrl
            go_wp2
            refine wp_region_held_drew (S := fun w' => w'.cell? ⟨bq, oq + m, none⟩ = some (.int .u64 (id : Int)) ∧ w'.cell? ⟨bn, on + i, none⟩ = some (.string s)) (by kernel_rfl) hcc (fun hHeld => ?_)
            refine wpAnyH_take (i := 0) (oi := _) (v := ?_) rfl (by kernel_rfl) (by kernel_rfl) (by kernel_rfl) (fun _ _ _ h => h) (Or.inl ⟨by rfl, ?_⟩) hHeld ?_
            rotate_left
            · (intro w hSw; (try dsimp only at hSw); simp only [List.getElem_toArray, List.getElem_cons_zero]; go_simp; try with_reducible rfl)
            simp only [List.getElem_toArray, List.getElem_cons_zero, Act.put, List.setIfInBounds_toArray, List.set_cons_zero, List.set_cons_succ]
            refine wpAnyH_take (i := 1) (oi := _) (v := ?_) rfl (by kernel_rfl) (by kernel_rfl) (by kernel_rfl) (fun _ _ _ h => h) (Or.inl ⟨by rfl, ?_⟩) hHeld ?_
            rotate_left
            · (intro w hSw; (try dsimp only at hSw); simp only [List.getElem_toArray, List.getElem_cons_zero, List.getElem_cons_succ]; go_simp; try with_reducible rfl)
            simp only [List.getElem_toArray, List.getElem_cons_zero, List.getElem_cons_succ, Act.put, List.setIfInBounds_toArray, List.set_cons_zero, List.set_cons_succ]
            refine wpAnyH_take (i := 2) (oi := _) (v := ?_) rfl (by kernel_rfl) (by kernel_rfl) (by kernel_rfl) (fun _ _ _ h => h) (Or.inl ⟨by rfl, ?_⟩) hHeld ?_
            rotate_left
            · (intro w hSw; (try dsimp only at hSw); simp only [List.getElem_toArray, List.getElem_cons_zero, List.getElem_cons_succ]; go_simp; try with_reducible rfl)
            simp only [List.getElem_toArray, List.getElem_cons_zero, List.getElem_cons_succ, Act.put, List.setIfInBounds_toArray, List.set_cons_zero, List.set_cons_succ]
            refine wpAnyH_take (i := 3) (oi := _) (v := ?_) rfl (by kernel_rfl) (by kernel_rfl) (by kernel_rfl) (fun _ _ _ h => h) (Or.inl ⟨by rfl, ?_⟩) hHeld ?_
            rotate_left
            · (intro w hSw; (try dsimp only at hSw); simp only [List.getElem_toArray, List.getElem_cons_zero, List.getElem_cons_succ]; go_simp; try with_reducible rfl)
            simp only [List.getElem_toArray, List.getElem_cons_zero, List.getElem_cons_succ, Act.put, List.setIfInBounds_toArray, List.set_cons_zero, List.set_cons_succ]
            refine wpAnyH_take (i := 4) (oi := _) (v := ?_) rfl (by kernel_rfl) (by kernel_rfl) (by kernel_rfl) (fun _ _ _ h => h) (Or.inl ⟨by rfl, ?_⟩) hHeld ?_
            rotate_left
            · (intro w hSw; (try dsimp only at hSw); simp only [List.getElem_toArray, List.getElem_cons_zero, List.getElem_cons_succ]; go_simp; try with_reducible rfl)
            simp only [List.getElem_toArray, List.getElem_cons_zero, List.getElem_cons_succ, Act.put, List.setIfInBounds_toArray, List.set_cons_zero, List.set_cons_succ]
            refine wpAnyH_take (i := 5) (oi := _) (v := ?_) rfl (by kernel_rfl) (by kernel_rfl) (by kernel_rfl) (fun _ _ _ h => h) (Or.inl ⟨by rfl, ?_⟩) hHeld ?_
            rotate_left
            · (intro w hSw; (try dsimp only at hSw); simp only [List.getElem_toArray, List.getElem_cons_zero, List.getElem_cons_succ]; go_simp; try with_reducible rfl)
            simp only [List.getElem_toArray, List.getElem_cons_zero, List.getElem_cons_succ, Act.put, List.setIfInBounds_toArray, List.set_cons_zero, List.set_cons_succ]
            refine wpAnyH_take (i := 6) (oi := _) (v := ?_) rfl (by kernel_rfl) (by kernel_rfl) (by kernel_rfl) (fun _ _ _ h => h) (Or.inl ⟨by rfl, ?_⟩) hHeld ?_
            rotate_left
            · (intro w hSw; (try dsimp only at hSw); simp only [List.getElem_toArray, List.getElem_cons_zero, List.getElem_cons_succ]; go_simp; try with_reducible rfl)
            simp only [List.getElem_toArray, List.getElem_cons_zero, List.getElem_cons_succ, Act.put, List.setIfInBounds_toArray, List.set_cons_zero, List.set_cons_succ]
            refine wpAnyH_take (i := 7) (oi := _) (v := ?_) rfl (by kernel_rfl) (by kernel_rfl) (by kernel_rfl) (fun _ _ _ h => h) (Or.inl ⟨by rfl, ?_⟩) hHeld ?_
            rotate_left
            · (intro w hSw; (try dsimp only at hSw); simp only [List.getElem_toArray, List.getElem_cons_zero, List.getElem_cons_succ]; go_simp; try with_reducible rfl)
            simp only [List.getElem_toArray, List.getElem_cons_zero, List.getElem_cons_succ, Act.put, List.setIfInBounds_toArray, List.set_cons_zero, List.set_cons_succ]
            refine wpAnyH_take (i := 8) (oi := _) (v := ?_) rfl (by kernel_rfl) (by kernel_rfl) (by kernel_rfl) (fun _ _ _ h => h) (Or.inl ⟨by rfl, ?_⟩) hHeld ?_
            rotate_left
            · (intro w hSw; (try dsimp only at hSw); simp only [List.getElem_toArray, List.getElem_cons_zero, List.getElem_cons_succ]; go_simp; try with_reducible rfl)
            simp only [List.getElem_toArray, List.getElem_cons_zero, List.getElem_cons_succ, Act.put, List.setIfInBounds_toArray, List.set_cons_zero, List.set_cons_succ]
            refine wpAnyH_take (i := 9) (oi := _) (v := ?_) rfl (by kernel_rfl) (by kernel_rfl) (by kernel_rfl) (fun _ _ _ h => h) (Or.inl ⟨by rfl, ?_⟩) hHeld ?_
            rotate_left
            · (intro w hSw; (try dsimp only at hSw); simp only [List.getElem_toArray, List.getElem_cons_zero, List.getElem_cons_succ]; go_simp; try with_reducible rfl)
            simp only [List.getElem_toArray, List.getElem_cons_zero, List.getElem_cons_succ, Act.put, List.setIfInBounds_toArray, List.set_cons_zero, List.set_cons_succ]
            refine wpAnyH_ready (rs := [10]) (by kernel_rfl) (by simp) ?_
            refine AllReadyH.cons (o := _) rfl (fun K hK => ?_) AllReadyH.nil
            go_simp
            refine hK.out _ _ (hS4) (fun hHeld => ?_)
            clear hK K
            try simp only [Act.put, List.setIfInBounds_toArray, List.set_cons_zero, List.set_cons_succ]
            refine wpAnyH_done (by kernel_rfl) ?_ _
            clear hcc hS4 kci kfi hHeld
            go_wp2
            go_roundw
            case rel => exact ⟨i + 1, m + 1, ls.set id s, by go_num, by go_num, by omega, by omega, HMK, Lib.hid (by
              have h := (HRW.out.put id (.string s)).drew
              rw [List.map_set]
              simpa using h), Lib.hid (HBW.out.setCell (p := ⟨Bl, id, none⟩) (Nat.le_refl _) _).drew⟩
            case measure => simp [intOf]; omega
        · obtain rfl : i = ni := by omega
          have hb1 : decide ((i : Int) < (i : Int)) = false := by simp
          have HEND : Hid (∀ L ks, Full L ks → codeK L ks = bl → m = nq ∧ ls.map bytesOf = L) := Lib.hid (fun L ks F e => by
            obtain ⟨_, e1, e2, e3⟩ := HC5.out L ks F e
            have h := HRS.out
            rw [← HSSL.out] at h
            have h2 := h.end_ L ks F e2 e3 e1
            rw [HNQ.out] at h2
            exact h2)
          have hcb := HCB.out wr.drew HBA.out.drew
          by_cases hmq : m = nq
          case neg =>
            have g2 : ((m : Int) != (nq : Int)) = true := by rw [bne_iff_ne]; omega
            have HNO : Hid (∀ L ks, Full L ks → codeK L ks ≠ bl) := Lib.hid (fun L ks F e => hmq (HEND.out L ks F e).1)
            go_wp2
            refine wp_region_held_drew (S := fun _ => True) (by kernel_rfl) trivial (fun hHeld => ?_)
            refine wpAnyH_take (i := 0) (oi := _) (v := ?_) rfl (by kernel_rfl) (by kernel_rfl) (by kernel_rfl) (fun _ _ _ h => h) (Or.inl ⟨by rfl, ?_⟩) hHeld ?_
            rotate_left
            · (intro w hSw; (try dsimp only at hSw); simp only [List.getElem_toArray, List.getElem_cons_zero]; go_simp; try with_reducible rfl)
            simp only [List.getElem_toArray, List.getElem_cons_zero, Act.put, List.setIfInBounds_toArray, List.set_cons_zero, List.set_cons_succ]
            refine wpAnyH_take (i := 1) (oi := _) (v := ?_) rfl (by kernel_rfl) (by kernel_rfl) (by kernel_rfl) (fun _ _ _ h => h) (Or.inl ⟨by rfl, ?_⟩) hHeld ?_
            rotate_left
            · (intro w hSw; (try dsimp only at hSw); simp only [List.getElem_toArray, List.getElem_cons_zero, List.getElem_cons_succ]; go_simp; try with_reducible rfl)
            simp only [List.getElem_toArray, List.getElem_cons_zero, List.getElem_cons_succ, Act.put, List.setIfInBounds_toArray, List.set_cons_zero, List.set_cons_succ]
            refine wpAnyH_take (i := 2) (oi := _) (v := ?_) rfl (by kernel_rfl) (by kernel_rfl) (by kernel_rfl) (fun _ _ _ h => h) (Or.inl ⟨by rfl, ?_⟩) hHeld ?_
            rotate_left
            · (intro w hSw; (try dsimp only at hSw); simp only [List.getElem_toArray, List.getElem_cons_zero, List.getElem_cons_succ]; go_simp; try with_reducible rfl)
            simp only [List.getElem_toArray, List.getElem_cons_zero, List.getElem_cons_succ, Act.put, List.setIfInBounds_toArray, List.set_cons_zero, List.set_cons_succ]
            refine wpAnyH_take (i := 3) (oi := _) (v := ?_) rfl (by kernel_rfl) (by kernel_rfl) (by kernel_rfl) (fun _ _ _ h => h) (Or.inl ⟨by rfl, ?_⟩) hHeld ?_
            rotate_left
            · (intro w hSw; (try dsimp only at hSw); simp only [List.getElem_toArray, List.getElem_cons_zero, List.getElem_cons_succ]; go_simp; try with_reducible rfl)
            simp only [List.getElem_toArray, List.getElem_cons_zero, List.getElem_cons_succ, Act.put, List.setIfInBounds_toArray, List.set_cons_zero, List.set_cons_succ]
            refine wpAnyH_take (i := 4) (oi := _) (v := ?_) rfl (by kernel_rfl) (by kernel_rfl) (by kernel_rfl) (fun _ _ _ h => h) (Or.inl ⟨by rfl, ?_⟩) hHeld ?_
            rotate_left
            · (intro w hSw; (try dsimp only at hSw); simp only [List.getElem_toArray, List.getElem_cons_zero, List.getElem_cons_succ]; go_simp; try with_reducible rfl)
            simp only [List.getElem_toArray, List.getElem_cons_zero, List.getElem_cons_succ, Act.put, List.setIfInBounds_toArray, List.set_cons_zero, List.set_cons_succ]
            refine wpAnyH_take (i := 5) (oi := _) (v := undef) rfl (by kernel_rfl) (by kernel_rfl) (by kernel_rfl) (fun _ _ _ h => h) (Or.inr ⟨by rfl, rfl⟩) hHeld ?_
            simp only [List.getElem_toArray, List.getElem_cons_zero, List.getElem_cons_succ, Act.put, List.setIfInBounds_toArray, List.set_cons_zero, List.set_cons_succ]
            refine wpAnyH_take (i := 6) (oi := _) (v := undef) rfl (by kernel_rfl) (by kernel_rfl) (by kernel_rfl) (fun _ _ _ h => h) (Or.inr ⟨by rfl, rfl⟩) hHeld ?_
            simp only [List.getElem_toArray, List.getElem_cons_zero, List.getElem_cons_succ, Act.put, List.setIfInBounds_toArray, List.set_cons_zero, List.set_cons_succ]
            refine wpAnyH_take (i := 7) (oi := _) (v := undef) rfl (by kernel_rfl) (by kernel_rfl) (by kernel_rfl) (fun _ _ _ h => h) (Or.inr ⟨by rfl, rfl⟩) hHeld ?_
            simp only [List.getElem_toArray, List.getElem_cons_zero, List.getElem_cons_succ, Act.put, List.setIfInBounds_toArray, List.set_cons_zero, List.set_cons_succ]
            refine wpAnyH_take (i := 8) (oi := _) (v := ?_) rfl (by kernel_rfl) (by kernel_rfl) (by kernel_rfl) (fun _ _ _ h => h) (Or.inl ⟨by rfl, ?_⟩) hHeld ?_
            rotate_left
            · (intro w hSw; (try dsimp only at hSw); simp only [List.getElem_toArray, List.getElem_cons_zero, List.getElem_cons_succ]; go_simp; try with_reducible rfl)
            simp only [List.getElem_toArray, List.getElem_cons_zero, List.getElem_cons_succ, Act.put, List.setIfInBounds_toArray, List.set_cons_zero, List.set_cons_succ]
            refine wpAnyH_take (i := 9) (oi := _) (v := ?_) rfl (by kernel_rfl) (by kernel_rfl) (by kernel_rfl) (fun _ _ _ h => h) (Or.inl ⟨by rfl, ?_⟩) hHeld ?_
            rotate_left
            · (intro w hSw; (try dsimp only at hSw); simp only [List.getElem_toArray, List.getElem_cons_zero, List.getElem_cons_succ]; go_simp; try with_reducible rfl)
            simp only [List.getElem_toArray, List.getElem_cons_zero, List.getElem_cons_succ, Act.put, List.setIfInBounds_toArray, List.set_cons_zero, List.set_cons_succ]
            refine wpAnyH_take (i := 10) (oi := _) (v := undef) rfl (by kernel_rfl) (by kernel_rfl) (by kernel_rfl) (fun _ _ _ h => h) (Or.inr ⟨by rfl, rfl⟩) hHeld ?_
            simp only [List.getElem_toArray, List.getElem_cons_zero, List.getElem_cons_succ, Act.put, List.setIfInBounds_toArray, List.set_cons_zero, List.set_cons_succ]
            refine wpAnyH_take (i := 11) (oi := _) (v := undef) rfl (by kernel_rfl) (by kernel_rfl) (by kernel_rfl) (fun _ _ _ h => h) (Or.inr ⟨by rfl, rfl⟩) hHeld ?_
            simp only [List.getElem_toArray, List.getElem_cons_zero, List.getElem_cons_succ, Act.put, List.setIfInBounds_toArray, List.set_cons_zero, List.set_cons_succ]
            refine wpAnyH_take (i := 12) (oi := _) (v := undef) rfl (by kernel_rfl) (by kernel_rfl) (by kernel_rfl) (fun _ _ _ h => h) (Or.inr ⟨by rfl, rfl⟩) hHeld ?_
            simp only [List.getElem_toArray, List.getElem_cons_zero, List.getElem_cons_succ, Act.put, List.setIfInBounds_toArray, List.set_cons_zero, List.set_cons_succ]
            refine wpAnyH_take (i := 13) (oi := _) (v := undef) rfl (by kernel_rfl) (by kernel_rfl) (by kernel_rfl) (fun _ _ _ h => h) (Or.inr ⟨by rfl, rfl⟩) hHeld ?_
            simp only [List.getElem_toArray, List.getElem_cons_zero, List.getElem_cons_succ, Act.put, List.setIfInBounds_toArray, List.set_cons_zero, List.set_cons_succ]
            refine wpAnyH_take (i := 14) (oi := _) (v := undef) rfl (by kernel_rfl) (by kernel_rfl) (by kernel_rfl) (fun _ _ _ h => h) (Or.inr ⟨by rfl, rfl⟩) hHeld ?_
            simp only [List.getElem_toArray, List.getElem_cons_zero, List.getElem_cons_succ, Act.put, List.setIfInBounds_toArray, List.set_cons_zero, List.set_cons_succ]
            refine wpAnyH_take (i := 15) (oi := _) (v := undef) rfl (by kernel_rfl) (by kernel_rfl) (by kernel_rfl) (fun _ _ _ h => h) (Or.inr ⟨by rfl, rfl⟩) hHeld ?_
            simp only [List.getElem_toArray, List.getElem_cons_zero, List.getElem_cons_succ, Act.put, List.setIfInBounds_toArray, List.set_cons_zero, List.set_cons_succ]
            refine wpAnyH_take (i := 16) (oi := _) (v := ?_) rfl (by kernel_rfl) (by kernel_rfl) (by kernel_rfl) (fun _ _ _ h => h) (Or.inl ⟨by rfl, ?_⟩) hHeld ?_
            rotate_left
            · (intro w hSw; (try dsimp only at hSw); simp only [List.getElem_toArray, List.getElem_cons_zero, List.getElem_cons_succ]; go_simp; try with_reducible rfl)
            simp only [List.getElem_toArray, List.getElem_cons_zero, List.getElem_cons_succ, Act.put, List.setIfInBounds_toArray, List.set_cons_zero, List.set_cons_succ]
            refine wpAnyH_done (by kernel_rfl) ?_ _
            go_wp2
            go_ret2
            exact ⟨HBA.out.drew, none, 0, 0, false, rfl, .inr ⟨rfl, HNO.out⟩⟩
          subst hmq
          have g2 : ((m : Int) != (m : Int)) = false := by simp
          have HLSZ : Hid (∀ s ∈ ls, s.size ≤ 256) := Lib.hid HRS.out.sz
          have hszm : ∀ s ∈ ls, s.size ≤ maxLen := fun s hs => by have := HLSZ.out s hs; unfold maxLen; omega
          have HSLS : Hid (Sl wr wr.heap.size (some ⟨Bl, 0, none⟩) m (ls.map Value.string)) := Lib.hid (by
            have hl : ls.length = m := by rw [HRS.out.llen, HNQ.out]
            have h := Sl.of_row HRW.out m (by rw [List.size_toArray, List.length_map, hl]; exact Nat.le_refl _)
            rw [List.take_of_length_le (by rw [List.length_map, hl]; exact Nat.le_refl _)] at h
            exact h)
          have hck := rcheck_any wr.drew wr.heap.size (some ⟨Bl, 0, none⟩) m m ls _ rfl (by unfold maxLen; omega) hszm HSLS.out.drew
          have HCK := Lib.hid hck
          have HSZM := Lib.hid hszm
          clear hck hszm
          go_wp2
          refine wp_region_held_drew (S := fun w' => (convert 26 9 (.slice A n c)).run Try.prog w' = .ok (.string (bs bl)) w') (by kernel_rfl) hcb (fun hHeld => ?_)
          refine wpAnyH_take (i := 0) (oi := _) (v := ?_) rfl (by kernel_rfl) (by kernel_rfl) (by kernel_rfl) (fun _ _ _ h => h) (Or.inl ⟨by rfl, ?_⟩) hHeld ?_
          rotate_left
          · (intro w hSw; (try dsimp only at hSw); simp only [List.getElem_toArray, List.getElem_cons_zero]; go_simp; try with_reducible rfl)
          simp only [List.getElem_toArray, List.getElem_cons_zero, Act.put, List.setIfInBounds_toArray, List.set_cons_zero, List.set_cons_succ]
          refine wpAnyH_take (i := 1) (oi := _) (v := ?_) rfl (by kernel_rfl) (by kernel_rfl) (by kernel_rfl) (fun _ _ _ h => h) (Or.inl ⟨by rfl, ?_⟩) hHeld ?_
          rotate_left
          · (intro w hSw; (try dsimp only at hSw); simp only [List.getElem_toArray, List.getElem_cons_zero, List.getElem_cons_succ]; go_simp; try with_reducible rfl)
          simp only [List.getElem_toArray, List.getElem_cons_zero, List.getElem_cons_succ, Act.put, List.setIfInBounds_toArray, List.set_cons_zero, List.set_cons_succ]
          refine wpAnyH_take (i := 2) (oi := _) (v := ?_) rfl (by kernel_rfl) (by kernel_rfl) (by kernel_rfl) (fun _ _ _ h => h) (Or.inl ⟨by rfl, ?_⟩) hHeld ?_
          rotate_left
          · (intro w hSw; (try dsimp only at hSw); simp only [List.getElem_toArray, List.getElem_cons_zero, List.getElem_cons_succ]; go_simp; try with_reducible rfl)
          simp only [List.getElem_toArray, List.getElem_cons_zero, List.getElem_cons_succ, Act.put, List.setIfInBounds_toArray, List.set_cons_zero, List.set_cons_succ]
          refine wpAnyH_take (i := 3) (oi := _) (v := ?_) rfl (by kernel_rfl) (by kernel_rfl) (by kernel_rfl) (fun _ _ _ h => h) (Or.inl ⟨by rfl, ?_⟩) hHeld ?_
          rotate_left
          · (intro w hSw; (try dsimp only at hSw); simp only [List.getElem_toArray, List.getElem_cons_zero, List.getElem_cons_succ]; go_simp; try with_reducible rfl)
          simp only [List.getElem_toArray, List.getElem_cons_zero, List.getElem_cons_succ, Act.put, List.setIfInBounds_toArray, List.set_cons_zero, List.set_cons_succ]
          refine wpAnyH_take (i := 4) (oi := _) (v := ?_) rfl (by kernel_rfl) (by kernel_rfl) (by kernel_rfl) (fun _ _ _ h => h) (Or.inl ⟨by rfl, ?_⟩) hHeld ?_
          rotate_left
          · (intro w hSw; (try dsimp only at hSw); simp only [List.getElem_toArray, List.getElem_cons_zero, List.getElem_cons_succ]; go_simp; try with_reducible rfl)
          simp only [List.getElem_toArray, List.getElem_cons_zero, List.getElem_cons_succ, Act.put, List.setIfInBounds_toArray, List.set_cons_zero, List.set_cons_succ]
          refine wpAnyH_take (i := 5) (oi := _) (v := ?_) rfl (by kernel_rfl) (by kernel_rfl) (by kernel_rfl) (fun _ _ _ h => h) (Or.inl ⟨by rfl, ?_⟩) hHeld ?_
          rotate_left
          · (intro w hSw; (try dsimp only at hSw); simp only [List.getElem_toArray, List.getElem_cons_zero, List.getElem_cons_succ]; go_simp; try with_reducible rfl)
          simp only [List.getElem_toArray, List.getElem_cons_zero, List.getElem_cons_succ, Act.put, List.setIfInBounds_toArray, List.set_cons_zero, List.set_cons_succ]
          refine wpAnyH_ready (rs := [6]) (by kernel_rfl) (by simp) ?_
          refine AllReadyH.cons (o := _) rfl (fun K hK => ?_) AllReadyH.nil
          go_simp
          refine HCK.out.mono ?_
          rintro e w6 ⟨⟨q, hw6⟩, hcase⟩
          have HBA6 : Hid (Below w.heap.size w w6) := Lib.hid (by rw [hw6]; exact bel_drewN HBA.out.drew q)
          have HSLS6 : Hid (Sl w6 w6.heap.size (some ⟨Bl, 0, none⟩) m (ls.map Value.string)) := Lib.hid (by rw [hw6]; exact (HSLS.out.drew).drewN q)
          clear hw6
          have hcb6 := HCB.out _ HBA6.out
          by_cases hgo : m ≤ 20000 ∧ Good (ls.map bytesOf) ∧ wt (ls.map bytesOf) (LD.root (ls.map bytesOf)) ≤ 524287
          case neg =>
            have HNO : Hid (∀ L ks, Full L ks → codeK L ks ≠ bl) := Lib.hid (fun L ks F e => hgo (by
              obtain ⟨_, e1⟩ := HEND.out L ks F e
              have hl : ls.length = m := by rw [HRS.out.llen, HNQ.out]
              have h1 := congrArg List.length e1
              rw [List.length_map, hl] at h1
              rw [e1]
              exact ⟨by rw [h1]; exact F.good.few, F.good, F.wt_ok⟩))
            obtain ⟨x, hx0, rfl⟩ : ∃ x : Int, x ≠ 0 ∧ e = .returned (.int .i64 x) := by
              rcases hcase with ⟨_, h⟩ | ⟨h1, h2, h3, _⟩ | ⟨_, _, _, h⟩ | ⟨_, _, h⟩
              · exact ⟨2, by decide, h⟩
              · exact (hgo ⟨h1, h2, h3⟩).elim
              · exact ⟨2, by decide, h⟩
              · exact ⟨1, by decide, h⟩
            have g3 : (x != 0) = true := by rw [bne_iff_ne]; exact hx0
            clear hcase hgo
            go_wp2_with fail
            refine hK.out _ _ (hcb6) (fun hHeld => ?_)
            clear hK K
            try simp only [Act.put, List.setIfInBounds_toArray, List.set_cons_zero, List.set_cons_succ]
            refine wpAnyH_take (i := 7) (oi := _) (v := ?_) rfl (by kernel_rfl) (by kernel_rfl) (by kernel_rfl) (fun _ _ _ h => h) (Or.inl ⟨by rfl, ?_⟩) hHeld ?_
            rotate_left
            · (intro w hSw; (try dsimp only at hSw); simp only [List.getElem_toArray, List.getElem_cons_zero, List.getElem_cons_succ]; go_simp; try with_reducible rfl)
            simp only [List.getElem_toArray, List.getElem_cons_zero, List.getElem_cons_succ, Act.put, List.setIfInBounds_toArray, List.set_cons_zero, List.set_cons_succ]
            refine wpAnyH_take (i := 8) (oi := _) (v := ?_) rfl (by kernel_rfl) (by kernel_rfl) (by kernel_rfl) (fun _ _ _ h => h) (Or.inl ⟨by rfl, ?_⟩) hHeld ?_
            rotate_left
            · (intro w hSw; (try dsimp only at hSw); simp only [List.getElem_toArray, List.getElem_cons_zero, List.getElem_cons_succ]; go_simp; try with_reducible rfl)
            simp only [List.getElem_toArray, List.getElem_cons_zero, List.getElem_cons_succ, Act.put, List.setIfInBounds_toArray, List.set_cons_zero, List.set_cons_succ]
            refine wpAnyH_take (i := 9) (oi := _) (v := ?_) rfl (by kernel_rfl) (by kernel_rfl) (by kernel_rfl) (fun _ _ _ h => h) (Or.inl ⟨by rfl, ?_⟩) hHeld ?_
            rotate_left
            · (intro w hSw; (try dsimp only at hSw); simp only [List.getElem_toArray, List.getElem_cons_zero, List.getElem_cons_succ]; go_simp; try with_reducible rfl)
            simp only [List.getElem_toArray, List.getElem_cons_zero, List.getElem_cons_succ, Act.put, List.setIfInBounds_toArray, List.set_cons_zero, List.set_cons_succ]
            refine wpAnyH_take (i := 10) (oi := _) (v := undef) rfl (by kernel_rfl) (by kernel_rfl) (by kernel_rfl) (fun _ _ _ h => h) (Or.inr ⟨by rfl, rfl⟩) hHeld ?_
            simp only [List.getElem_toArray, List.getElem_cons_zero, List.getElem_cons_succ, Act.put, List.setIfInBounds_toArray, List.set_cons_zero, List.set_cons_succ]
            refine wpAnyH_take (i := 11) (oi := _) (v := undef) rfl (by kernel_rfl) (by kernel_rfl) (by kernel_rfl) (fun _ _ _ h => h) (Or.inr ⟨by rfl, rfl⟩) hHeld ?_
            simp only [List.getElem_toArray, List.getElem_cons_zero, List.getElem_cons_succ, Act.put, List.setIfInBounds_toArray, List.set_cons_zero, List.set_cons_succ]
            refine wpAnyH_take (i := 12) (oi := _) (v := undef) rfl (by kernel_rfl) (by kernel_rfl) (by kernel_rfl) (fun _ _ _ h => h) (Or.inr ⟨by rfl, rfl⟩) hHeld ?_
            simp only [List.getElem_toArray, List.getElem_cons_zero, List.getElem_cons_succ, Act.put, List.setIfInBounds_toArray, List.set_cons_zero, List.set_cons_succ]
            refine wpAnyH_take (i := 13) (oi := _) (v := undef) rfl (by kernel_rfl) (by kernel_rfl) (by kernel_rfl) (fun _ _ _ h => h) (Or.inr ⟨by rfl, rfl⟩) hHeld ?_
            simp only [List.getElem_toArray, List.getElem_cons_zero, List.getElem_cons_succ, Act.put, List.setIfInBounds_toArray, List.set_cons_zero, List.set_cons_succ]
            refine wpAnyH_take (i := 14) (oi := _) (v := undef) rfl (by kernel_rfl) (by kernel_rfl) (by kernel_rfl) (fun _ _ _ h => h) (Or.inr ⟨by rfl, rfl⟩) hHeld ?_
            simp only [List.getElem_toArray, List.getElem_cons_zero, List.getElem_cons_succ, Act.put, List.setIfInBounds_toArray, List.set_cons_zero, List.set_cons_succ]
            refine wpAnyH_take (i := 15) (oi := _) (v := undef) rfl (by kernel_rfl) (by kernel_rfl) (by kernel_rfl) (fun _ _ _ h => h) (Or.inr ⟨by rfl, rfl⟩) hHeld ?_
            simp only [List.getElem_toArray, List.getElem_cons_zero, List.getElem_cons_succ, Act.put, List.setIfInBounds_toArray, List.set_cons_zero, List.set_cons_succ]
            refine wpAnyH_take (i := 16) (oi := _) (v := ?_) rfl (by kernel_rfl) (by kernel_rfl) (by kernel_rfl) (fun _ _ _ h => h) (Or.inl ⟨by rfl, ?_⟩) hHeld ?_
            rotate_left
            · (intro w hSw; (try dsimp only at hSw); simp only [List.getElem_toArray, List.getElem_cons_zero, List.getElem_cons_succ]; go_simp; try with_reducible rfl)
            simp only [List.getElem_toArray, List.getElem_cons_zero, List.getElem_cons_succ, Act.put, List.setIfInBounds_toArray, List.set_cons_zero, List.set_cons_succ]
            refine wpAnyH_done (by kernel_rfl) ?_ _
            go_wp2
            go_ret2
            exact ⟨HBA6.out, none, 0, 0, false, rfl, .inr ⟨rfl, HNO.out⟩⟩
          obtain rfl : e = .returned (.int .i64 0) := by
            rcases hcase with ⟨h1, _⟩ | ⟨_, _, _, h⟩ | ⟨_, _, h1, _⟩ | ⟨_, h1, _⟩
            · omega
            · exact h
            · omega
            · exact (h1 hgo.2.1).elim
          obtain ⟨ks, F⟩ := full_ex hgo.2.1 hgo.2.2
          have hm20 := hgo.1
          have FL := Lib.hid F
          have hen := renc11_any w6 (some ⟨Bl, 0, none⟩) m m ls ks F hm20 HSZM.out HSLS6.out
          have hxl := codeK_lt F
          obtain ⟨X, hX⟩ : ∃ X, codeK (ls.map bytesOf) ks = X := ⟨_, rfl⟩
          rw [hX] at hen hxl
          have HEN := Lib.hid hen; have HX := Lib.hid hX
          have hbq := bs_beq X bl hxl HBL.out
          clear hcase hgo F hen hX hxl
          go_wp2_with fail
          refine hK.out _ _ (hcb6) (fun hHeld => ?_)
          clear hK K
          try simp only [Act.put, List.setIfInBounds_toArray, List.set_cons_zero, List.set_cons_succ]
          refine wpAnyH_take (i := 7) (oi := _) (v := ?_) rfl (by kernel_rfl) (by kernel_rfl) (by kernel_rfl) (fun _ _ _ h => h) (Or.inl ⟨by rfl, ?_⟩) hHeld ?_
          rotate_left
          · (intro w hSw; (try dsimp only at hSw); simp only [List.getElem_toArray, List.getElem_cons_zero, List.getElem_cons_succ]; go_simp; try with_reducible rfl)
          simp only [List.getElem_toArray, List.getElem_cons_zero, List.getElem_cons_succ, Act.put, List.setIfInBounds_toArray, List.set_cons_zero, List.set_cons_succ]
          refine wpAnyH_take (i := 8) (oi := _) (v := ?_) rfl (by kernel_rfl) (by kernel_rfl) (by kernel_rfl) (fun _ _ _ h => h) (Or.inl ⟨by rfl, ?_⟩) hHeld ?_
          rotate_left
          · (intro w hSw; (try dsimp only at hSw); simp only [List.getElem_toArray, List.getElem_cons_zero, List.getElem_cons_succ]; go_simp; try with_reducible rfl)
          simp only [List.getElem_toArray, List.getElem_cons_zero, List.getElem_cons_succ, Act.put, List.setIfInBounds_toArray, List.set_cons_zero, List.set_cons_succ]
          refine wpAnyH_take (i := 9) (oi := _) (v := ?_) rfl (by kernel_rfl) (by kernel_rfl) (by kernel_rfl) (fun _ _ _ h => h) (Or.inl ⟨by rfl, ?_⟩) hHeld ?_
          rotate_left
          · (intro w hSw; (try dsimp only at hSw); simp only [List.getElem_toArray, List.getElem_cons_zero, List.getElem_cons_succ]; go_simp; try with_reducible rfl)
          simp only [List.getElem_toArray, List.getElem_cons_zero, List.getElem_cons_succ, Act.put, List.setIfInBounds_toArray, List.set_cons_zero, List.set_cons_succ]
          refine wpAnyH_take (i := 10) (oi := _) (v := ?_) rfl (by kernel_rfl) (by kernel_rfl) (by kernel_rfl) (fun _ _ _ h => h) (Or.inl ⟨by rfl, ?_⟩) hHeld ?_
          rotate_left
          · (intro w hSw; (try dsimp only at hSw); simp only [List.getElem_toArray, List.getElem_cons_zero, List.getElem_cons_succ]; go_simp; try with_reducible rfl)
          simp only [List.getElem_toArray, List.getElem_cons_zero, List.getElem_cons_succ, Act.put, List.setIfInBounds_toArray, List.set_cons_zero, List.set_cons_succ]
          refine wpAnyH_take (i := 13) (oi := _) (v := ?_) rfl (by kernel_rfl) (by kernel_rfl) (by kernel_rfl) (fun _ _ _ h => h) (Or.inl ⟨by rfl, ?_⟩) hHeld ?_
          rotate_left
          · (intro w hSw; (try dsimp only at hSw); simp only [List.getElem_toArray, List.getElem_cons_zero, List.getElem_cons_succ]; go_simp; try with_reducible rfl)
          simp only [List.getElem_toArray, List.getElem_cons_zero, List.getElem_cons_succ, Act.put, List.setIfInBounds_toArray, List.set_cons_zero, List.set_cons_succ]
          refine wpAnyH_take (i := 14) (oi := _) (v := ?_) rfl (by kernel_rfl) (by kernel_rfl) (by kernel_rfl) (fun _ _ _ h => h) (Or.inl ⟨by rfl, ?_⟩) hHeld ?_
          rotate_left
          · (intro w hSw; (try dsimp only at hSw); simp only [List.getElem_toArray, List.getElem_cons_zero, List.getElem_cons_succ]; go_simp; try with_reducible rfl)
          simp only [List.getElem_toArray, List.getElem_cons_zero, List.getElem_cons_succ, Act.put, List.setIfInBounds_toArray, List.set_cons_zero, List.set_cons_succ]
          refine wpAnyH_ready (rs := [11]) (by kernel_rfl) (by simp) ?_
          refine AllReadyH.cons (o := _) rfl (fun K hK => ?_) AllReadyH.nil
          go_simp
          refine HEN.out.mono ?_
          rintro e w7 ⟨v7, rfl, hown7, hB7⟩
          obtain ⟨A7, c7, rfl, -, -⟩ := own_shape hown7
          have hcv7 := B.conv_put hown7
          have HB7 := Lib.hid (HBA6.out.trans (hB7.mono HBA6.out.size))
          have HSLS7 : Hid (Sl w7 w7.heap.size (some ⟨Bl, 0, none⟩) m (ls.map Value.string)) := Lib.hid ((HSLS6.out.below hB7).more hB7.size)
          have hcb7 := HCB.out _ HB7.out
          clear hown7 hB7
          by_cases heq : X = bl
          · rw [decide_eq_true heq] at hbq
            have HEQ := Lib.hid heq
            clear heq
            go_wp2_with fail
            refine hK.out _ _ (hcb7) (fun hHeld => ?_)
            clear hK K
            try simp only [Act.put, List.setIfInBounds_toArray, List.set_cons_zero, List.set_cons_succ]
            refine wpAnyH_ready (rs := [12]) (by kernel_rfl) (by simp) ?_
            refine AllReadyH.cons (o := _) rfl (fun K hK => ?_) AllReadyH.nil
            go_simp
            refine hK.out _ _ (hcb7) (fun hHeld => ?_)
            clear hK K
            try simp only [Act.put, List.setIfInBounds_toArray, List.set_cons_zero, List.set_cons_succ]
            refine wpAnyH_take (i := 15) (oi := _) (v := ?_) rfl (by kernel_rfl) (by kernel_rfl) (by kernel_rfl) (fun _ _ _ h => h) (Or.inl ⟨by rfl, ?_⟩) hHeld ?_
            rotate_left
            · (intro w hSw; (try dsimp only at hSw); simp only [List.getElem_toArray, List.getElem_cons_zero, List.getElem_cons_succ]; go_simp; try with_reducible rfl)
            simp only [List.getElem_toArray, List.getElem_cons_zero, List.getElem_cons_succ, Act.put, List.setIfInBounds_toArray, List.set_cons_zero, List.set_cons_succ]
            refine wpAnyH_take (i := 16) (oi := _) (v := ?_) rfl (by kernel_rfl) (by kernel_rfl) (by kernel_rfl) (fun _ _ _ h => h) (Or.inl ⟨by rfl, ?_⟩) hHeld ?_
            rotate_left
            · (intro w hSw; (try dsimp only at hSw); simp only [List.getElem_toArray, List.getElem_cons_zero, List.getElem_cons_succ]; go_simp; try with_reducible rfl)
            simp only [List.getElem_toArray, List.getElem_cons_zero, List.getElem_cons_succ, Act.put, List.setIfInBounds_toArray, List.set_cons_zero, List.set_cons_succ]
            refine wpAnyH_done (by kernel_rfl) ?_ _
            go_wp2
            go_ret2
            exact ⟨HB7.out, _, m, _, true, rfl, .inl ⟨rfl, hm20, ls, ks, HSLS7.out, HLSZ.out, FL.out, by rw [HX.out]; exact HEQ.out⟩⟩
          · rw [decide_eq_false heq] at hbq
            have HNO : Hid (∀ L ks, Full L ks → codeK L ks ≠ bl) := Lib.hid (fun L' ks' F' e' => heq (by
              obtain ⟨_, e1⟩ := HEND.out L' ks' F' e'
              subst e1
              have e2 := F'.one FL.out
              subst e2
              rw [← HX.out]; exact e'))
            clear heq
            go_wp2_with fail
            refine hK.out _ _ (hcb7) (fun hHeld => ?_)
            clear hK K
            try simp only [Act.put, List.setIfInBounds_toArray, List.set_cons_zero, List.set_cons_succ]
            refine wpAnyH_ready (rs := [12]) (by kernel_rfl) (by simp) ?_
            refine AllReadyH.cons (o := _) rfl (fun K hK => ?_) AllReadyH.nil
            go_simp
            refine hK.out _ _ (hcb7) (fun hHeld => ?_)
            clear hK K
            try simp only [Act.put, List.setIfInBounds_toArray, List.set_cons_zero, List.set_cons_succ]
            refine wpAnyH_take (i := 15) (oi := _) (v := ?_) rfl (by kernel_rfl) (by kernel_rfl) (by kernel_rfl) (fun _ _ _ h => h) (Or.inl ⟨by rfl, ?_⟩) hHeld ?_
            rotate_left
            · (intro w hSw; (try dsimp only at hSw); simp only [List.getElem_toArray, List.getElem_cons_zero, List.getElem_cons_succ]; go_simp; try with_reducible rfl)
            simp only [List.getElem_toArray, List.getElem_cons_zero, List.getElem_cons_succ, Act.put, List.setIfInBounds_toArray, List.set_cons_zero, List.set_cons_succ]
            refine wpAnyH_take (i := 16) (oi := _) (v := ?_) rfl (by kernel_rfl) (by kernel_rfl) (by kernel_rfl) (fun _ _ _ h => h) (Or.inl ⟨by rfl, ?_⟩) hHeld ?_
            rotate_left
            · (intro w hSw; (try dsimp only at hSw); simp only [List.getElem_toArray, List.getElem_cons_zero, List.getElem_cons_succ]; go_simp; try with_reducible rfl)
            simp only [List.getElem_toArray, List.getElem_cons_zero, List.getElem_cons_succ, Act.put, List.setIfInBounds_toArray, List.set_cons_zero, List.set_cons_succ]
            refine wpAnyH_done (by kernel_rfl) ?_ _
            go_wp2
            go_ret2
            exact ⟨HB7.out, none, 0, 0, false, rfl, .inr ⟨rfl, HNO.out⟩⟩
end Go.Proofs.Ytpnkjfjkeoleaaa.LD
