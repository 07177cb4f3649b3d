/- louds: the law LoudsSet. -/
import Derived.Test.YtpnkjfjkeoleaaaWLdFinds
import Derived.Test.YtpnkjfjkeoleaaaWLdUnder
import Derived.Test.YtpnkjfjkeoleaaaLcPlain
set_option linter.unusedVariables false
set_option maxRecDepth 100000
namespace Go.Proofs.Ytpnkjfjkeoleaaa.LD
open Go.RowKit HK
open Go.Proofs.Ytpnkjfjkeoleaaa.B (bytesOf bytesOf_len bytesOf_lt)

/-- Which of the first k strings begin p, with their lengths. -/
def aheadTo (L : List Str) (p : Str) (k : Nat) : List (Nat × Nat) := ((List.range k).filter fun i => pre (at_ L i) p).map fun i => (i, (at_ L i).length)
theorem aheadTo_succ (L : List Str) (p : Str) (k : Nat) : aheadTo L p (k + 1) = aheadTo L p k ++ if pre (at_ L k) p then [(k, (at_ L k).length)] else [] := by
  unfold aheadTo
  rw [List.range_succ, List.filter_append, List.map_append]
  cases h : pre (at_ L k) p <;> simp [h]
theorem aheadTo_pre (L : List Str) (p : Str) (k : Nat) : ∀ n, k ≤ n → ∃ r, aheadTo L p n = aheadTo L p k ++ r
  | 0, h => ⟨[], by rw [show k = 0 by omega]; simp⟩
  | n + 1, h => by
    rcases Nat.eq_or_lt_of_le h with e | e
    · exact ⟨[], by rw [e]; simp⟩
    · obtain ⟨r, hr⟩ := aheadTo_pre L p k n (by omega)
      exact ⟨_, by rw [aheadTo_succ, hr, List.append_assoc]⟩
theorem aheadTo_at {L : List Str} {p : Str} {k n : Nat} (h : k < n) (hp : pre (at_ L k) p = true) : (aheadTo L p n)[(aheadTo L p k).length]? = some (k, (at_ L k).length) ∧ (aheadTo L p (k + 1)).length = (aheadTo L p k).length + 1 := by
  obtain ⟨r, hr⟩ := aheadTo_pre L p (k + 1) n h
  have e := aheadTo_succ L p k
  rw [hp, if_pos rfl] at e
  rw [hr, e]
  exact ⟨by simp, by simp⟩
theorem aheadTo_no {L : List Str} {p : Str} {k : Nat} (hp : pre (at_ L k) p = false) : aheadTo L p (k + 1) = aheadTo L p k := by
  rw [aheadTo_succ, hp]; simp
theorem underTo_pre (L : List Str) (p : Str) (k : Nat) : ∀ n, k ≤ n → ∃ r, underTo L p n = underTo L p k ++ r
  | 0, h => ⟨[], by rw [show k = 0 by omega]; simp⟩
  | n + 1, h => by
    rcases Nat.eq_or_lt_of_le h with e | e
    · exact ⟨[], by rw [e]; simp⟩
    · obtain ⟨r, hr⟩ := underTo_pre L p k n (by omega)
      exact ⟨_, by rw [underTo_succ, hr, List.append_assoc]⟩
theorem underTo_at {L : List Str} {p : Str} {k n : Nat} (h : k < n) (hp : pre p (at_ L k) = true) : (underTo L p n)[(underTo L p k).length]? = some k ∧ (underTo L p (k + 1)).length = (underTo L p k).length + 1 := by
  obtain ⟨r, hr⟩ := underTo_pre L p (k + 1) n h
  have e := underTo_succ L p k
  rw [hp, if_pos rfl] at e
  rw [hr, e]
  exact ⟨by simp, by simp⟩
theorem underTo_no {L : List Str} {p : Str} {k : Nat} (hp : pre p (at_ L k) = false) : underTo L p (k + 1) = underTo L p k := by
  rw [underTo_succ, hp]; simp
theorem ltS_pre : ∀ (p : Str) (a b : Nat), a < b → b ≤ p.length → ltS (p.take a) (p.take b) = true
  | [], a, b, h, hb => by simp at hb; omega
  | x :: p, 0, b + 1, _, _ => rfl
  | x :: p, a + 1, b + 1, h, hb => by
    simp only [List.take_succ_cons, ltS, Nat.lt_irrefl, if_false, if_true]
    exact ltS_pre p a b (by omega) (by simpa using hb)
  | x :: p, a, 0, h, _ => by omega
/-- Prefixes: shortest first is in the order of the set. -/
theorem hits_ahead {L : List Str} (hg : Good L) (p : Str) : hits L p = aheadTo L p L.length := by
  refine sorted_ext (R := fun a b : Nat × Nat => a.1 < b.1) (fun a h => Nat.lt_irrefl _ h) (fun h k => Nat.lt_trans h k) _ _ ?_ ?_ ?_
  · unfold hits hitsTo
    rw [List.pairwise_filterMap]
    refine (List.pairwise_lt_range (n := p.length)).imp_of_mem (fun {i j} hi hj hij => ?_)
    rw [List.mem_range] at hi hj
    intro a ha b hb
    obtain ⟨k, hk, rfl⟩ := Option.map_eq_some_iff.1 ha
    obtain ⟨k', hk', rfl⟩ := Option.map_eq_some_iff.1 hb
    obtain ⟨h1, h2⟩ := idx_inv hk
    obtain ⟨h3, h4⟩ := idx_inv hk'
    have hlt := ltS_pre p (i + 1) (j + 1) (by omega) (by omega)
    rw [← h2, ← h4] at hlt
    show k < k'
    rcases Nat.lt_trichotomy k k' with h | h | h
    · exact h
    · subst h; rw [ltS_irrefl] at hlt; cases hlt
    · have := ltS_trans hlt (hg.asc k' k h h1)
      rw [ltS_irrefl] at this; cases this
  · unfold aheadTo
    rw [List.pairwise_map]
    exact (List.pairwise_lt_range (n := L.length)).filter _
  · rintro ⟨k, d⟩
    unfold hits hitsTo aheadTo
    rw [List.mem_filterMap, List.mem_map]
    constructor
    · rintro ⟨i, hi, e⟩
      rw [List.mem_range] at hi
      obtain ⟨k', hk, e⟩ := Option.map_eq_some_iff.1 e
      injection e with e1 e2
      subst e1 e2
      obtain ⟨h1, h2⟩ := idx_inv hk
      have hl : (at_ L k').length = i + 1 := by rw [h2, List.length_take]; omega
      refine ⟨k', List.mem_filter.2 ⟨List.mem_range.2 h1, ?_⟩, by rw [hl]⟩
      unfold pre
      rw [Bool.and_eq_true, decide_eq_true_eq, decide_eq_true_eq, hl]
      exact ⟨by omega, h2.symm⟩
    · rintro ⟨k', hk, e⟩
      injection e with e1 e2
      subst e1 e2
      obtain ⟨h1, h2⟩ := List.mem_filter.1 hk
      rw [List.mem_range] at h1
      unfold pre at h2
      rw [Bool.and_eq_true, decide_eq_true_eq, decide_eq_true_eq] at h2
      have h3 := (hg.lenAt h1).1
      refine ⟨(at_ L k').length - 1, List.mem_range.2 (by omega), ?_⟩
      rw [show (at_ L k').length - 1 + 1 = (at_ L k').length by omega, idx_some hg h1 h2.2.symm]
      rfl
def inTo (L : List Str) (p : Str) : Nat → Bool
  | 0 => false
  | k + 1 => inTo L p k || decide (at_ L k = p)
theorem inTo_iff (L : List Str) (p : Str) : ∀ n, inTo L p n = true ↔ ∃ k, k < n ∧ at_ L k = p
  | 0 => by simp [inTo]
  | n + 1 => by
    simp only [inTo, Bool.or_eq_true, decide_eq_true_eq, inTo_iff L p n]
    constructor
    · rintro (⟨k, h1, h2⟩ | h)
      · exact ⟨k, by omega, h2⟩
      · exact ⟨n, by omega, h⟩
    · rintro ⟨k, h1, h2⟩
      rcases Nat.eq_or_lt_of_le (show k ≤ n by omega) with e | e
      · right; rw [← e]; exact h2
      · left; exact ⟨k, e, h2⟩
theorem find_in {L : List Str} (hg : Good L) (p : Str) : ∃ q : Nat, findV L p = .tuple #[.int .i64 (q : Nat), .bool (inTo L p L.length)] := by
  unfold findV
  cases h : idx L p with
  | some k =>
    obtain ⟨h1, h2⟩ := idx_inv h
    rw [(inTo_iff L p L.length).2 ⟨k, h1, h2⟩]
    exact ⟨k, rfl⟩
  | none =>
    have : inTo L p L.length = false := by
      cases h3 : inTo L p L.length with
      | false => rfl
      | true =>
        obtain ⟨k, h1, h2⟩ := (inTo_iff L p L.length).1 h3
        rw [idx_some hg h1 h2] at h
        cases h
    rw [this]
    exact ⟨0, rfl⟩
/-- Numbers that lie there. -/
def IntAt (w : World) (A : Option Addr) (l : List Nat) (j x : Nat) : Prop := ∃ b off, A = some ⟨b, off, none⟩ ∧ w.cell? ⟨b, off + j, none⟩ = some (.int .i64 (x : Nat))
theorem int_at {w : World} {B : Nat} {A : Option Addr} {n : Nat} {l : List Nat} (h : Sl w B A n (l.map intV)) {j x : Nat} (hx : l[j]? = some x) : IntAt w A l j x := by
  have hj := (List.getElem?_eq_some_iff.1 hx).1
  have hl := h.1
  rw [List.length_map] at hl
  obtain ⟨b, off, u, rfl, _, hu, hc⟩ := h.at_ (show j < n by omega)
  rw [List.getElem?_map, hx] at hu
  injection hu with hu
  subst hu
  exact ⟨b, off, rfl, hc⟩

set_option maxHeartbeats 16000000 in
theorem set_all (A : Option Addr) (n c : Nat) (ss0 : List ByteArray) (s : ByteArray) (w : World) (hm : n ≤ maxLen) (hs : ArgStr w A n c ss0) (hsz : s.size ≤ maxLen) :
    Calls Try.prog 9 #[.slice A n c, .string s] w fun e w' => e = .returned (.bool true) ∧ Below w.heap.size w w' := by
  have HSET := Lib.hid (lset_any w A n c ss0 hm hs.2.2.2 hs.2.2.1)
  have HSZ := Lib.hid hsz
  unfold maxLen at hm hsz
  clear hs hsz
  go_enter Try.func9, Try.ntmps9
  go_wp2_with fail
  refine HSET.out.mono ?_
  intro e w1 hP
  obtain ⟨A1, m, c1, ss, rfl, hF⟩ := setF_of hP
  have HF := Lib.hid hF
  have hfew := hF.few
  clear hP hF
  go_wp2_with fail
  refine HF.out.build.mono ?_
  rintro e w2 ⟨tb, ks, rfl, hT, hB⟩
  have HT := Lib.hid (both_of HF.out hT hB)
  have HB := Lib.hid (HF.out.bel.trans (hB.mono HF.out.bel.size))
  clear hT hB
  have HHAS := Lib.hid (lhas_any w2 _ _ tb ks A1 m c1 ss HT.out.tr (by unfold maxLen; omega) HT.out.size (HT.out.sl.more HT.out.low))
  have HPF : Hid (∀ W, Below w2.heap.size w2 W → Calls Try.prog 30 #[.pointer (some ⟨tb, 0, none⟩), .string s] W (PrefPost W 48 (aheadTo (ss.map bytesOf) (bytesOf s) m))) := Lib.hid (fun W hW => by
    have h := lpref_any W _ _ tb _ ks (HT.out.next hW).tr s HSZ.out
    rw [hits_ahead HT.out.tr.good, HT.out.len] at h
    exact h)
  have HUN : Hid (∀ W, Below w2.heap.size w2 W → Calls Try.prog 19 #[.pointer (some ⟨tb, 0, none⟩), .string s, .int .i64 (m : Nat)] W (UnderPost W (underTo (ss.map bytesOf) (bytesOf s) m))) := Lib.hid (fun W hW => by
    have h := lunder_any W _ _ tb _ ks (HT.out.next hW).tr s HSZ.out (m : Nat) (B.wf_i64 _ (by omega))
    rw [Int.toNat_natCast, under_all, HT.out.len, List.take_of_length_le (underTo_len _ _ _)] at h
    exact h)
  have HFI : Hid (∃ q : Nat, findV (ss.map bytesOf) (bytesOf s) = .tuple #[.int .i64 (q : Nat), .bool (inTo (ss.map bytesOf) (bytesOf s) m)]) := Lib.hid (by
    have h := find_in HT.out.tr.good (bytesOf s)
    rw [HT.out.len] at h
    exact h)
  obtain ⟨L, hL⟩ : ∃ L, ss.map bytesOf = L := ⟨_, rfl⟩
  obtain ⟨p, hp⟩ : ∃ p, bytesOf s = p := ⟨_, rfl⟩
  rw [hL, hp] at HPF HUN HFI
  have HL := Lib.hid hL; have HP := Lib.hid hp
  clear hL hp
  go_wp2_with fail
  refine HHAS.out.mono ?_
  rintro e w3 ⟨rfl, hB3⟩
  have HB3 := Lib.hid hB3
  clear hB3
  go_wp2_with fail
  refine (HPF.out w3 HB3.out).mono ?_
  rintro e w4 ⟨v4, rfl, hown4, hB4⟩
  obtain ⟨A4, c4, rfl, hat4⟩ := hit_at hown4
  have HAT4 := Lib.hid hat4
  have HB4 := Lib.hid (HB3.out.trans (hB4.mono HB3.out.size))
  clear hown4 hB4 hat4
  go_wp2_with fail
  refine (HUN.out w4 HB4.out).mono ?_
  rintro e w5 ⟨v5, rfl, hown5, hB5⟩
  obtain ⟨A5, c5, rfl, _, _, hsl5⟩ := own_sl' hown5
  have HB5 := Lib.hid (HB4.out.trans (hB5.mono HB4.out.size))
  have HH5 : Hid (∀ j, j < (aheadTo L p m).length → HitAt w5 A4 (aheadTo L p m) j) := Lib.hid (fun j hj => HAT4.out w5 j hB5 hj)
  have HU5 := Lib.hid hsl5
  have HS5 : Hid (∀ k, k < m → StrAt w5 A1 L k) := Lib.hid (fun k hk => by
    have h2 := HT.out.next HB5.out
    rw [← HL.out]
    exact strs_at h2.size h2.sl hk)
  have hal : (aheadTo L p m).length ≤ 300 := by
    unfold aheadTo
    rw [List.length_map]
    have := List.length_filter_le (fun i => pre (at_ L i) p) (List.range m)
    rw [List.length_range] at this
    omega
  have hul : (underTo L p m).length ≤ 300 := by have := underTo_len L p m; omega
  clear hown5 hB5 hsl5
  obtain ⟨na, hna⟩ : ∃ na, (aheadTo L p m).length = na := ⟨_, rfl⟩
  obtain ⟨nu, hnu⟩ : ∃ nu, (underTo L p m).length = nu := ⟨_, rfl⟩
  rw [hna] at hal HH5 ⊢
  rw [hnu] at hul HU5 ⊢
  have HNA := Lib.hid hna; have HNU := Lib.hid hnu
  clear hna hnu
  go_wp2
  go_loopw [6, 9, 10, 36] (fun u1 u2 u3 v wr => ∃ (k a b q : Nat), u1 = .bool (inTo L p k) ∧ u2 = .int .i64 a ∧ u3 = .int .i64 b ∧ v = .int .i64 k ∧ k ≤ m ∧ a ≤ k ∧ b ≤ k ∧ Hid ((aheadTo L p k).length = a ∧ (underTo L p k).length = b) ∧ wr = w5.drewN q) (fun _ _ _ v _ => m - (intOf v).toNat)
  case atStart => exact ⟨0, 0, 0, 0, rfl, rfl, rfl, rfl, Nat.zero_le _, Nat.le_refl _, Nat.le_refl _, Lib.hid ⟨by simp [aheadTo], by simp [underTo]⟩, rfl⟩
  case round =>
    obtain ⟨k, a, b, q, rfl, rfl, rfl, rfl, hk, hak, hbk, HAB, rfl⟩ := hrel
    by_cases hlt : k < m
    · have hb0 : decide ((k : Int) < (m : Int)) = true := by simp; omega
      obtain ⟨b0, off, t, rfl, hc, hat, hsz⟩ := HS5.out k hlt
      have heq : (t.toList == s.toList) = decide (at_ L k = p) := by rw [str_eq, hat, HP.out]
      have HIN : Hid (inTo L p (k + 1) = (inTo L p k || decide (at_ L k = p))) := Lib.hid rfl
      have hb1 : Hid (∀ W, Calls Try.prog 35 #[.string s, .string t] W fun e w' => e = .returned (.bool (pre (at_ L k) p)) ∧ W = w') := Lib.hid (fun W => by
        rw [hat, ← HP.out]
        exact lbegins_any W s t HSZ.out (by unfold maxLen; omega))
      have hb2 : Hid (∀ W, Calls Try.prog 35 #[.string t, .string s] W fun e w' => e = .returned (.bool (pre p (at_ L k))) ∧ W = w') := Lib.hid (fun W => by
        rw [hat, ← HP.out]
        exact lbegins_any W t s (by unfold maxLen; omega) HSZ.out)
      have HTL : Hid ((at_ L k).length = t.size) := Lib.hid (by rw [hat, bytesOf_len])
      have i1 : (0 : Int) ≤ (k : Int) := by omega
      have i2 : (k : Int) < (m : Int) := by omega
      have hws : off + k = off + k := rfl
      generalize decide (at_ L k = p) = eq at heq HIN
      generalize hin : inTo L p k = ink at HIN ⊢
      have HK : Hid (inTo L p (k + 1) = (ink || eq)) := HIN
      clear hat hin hws HIN
      have HA1 : Hid (pre (at_ L k) p = true → (∃ g, A4 = some ⟨g, 0, none⟩ ∧ w5.cell? ⟨g, a * 2, none⟩ = some (.int .i64 (k : Nat)) ∧ w5.cell? ⟨g, a * 2 + 1, none⟩ = some (.int .i64 (t.size : Nat))) ∧ a < na ∧ (aheadTo L p (k + 1)).length = a + 1) := Lib.hid (fun hp => by
        obtain ⟨h1, h2⟩ := aheadTo_at hlt hp
        rw [HAB.out.1] at h1 h2
        have h3 := (List.getElem?_eq_some_iff.1 h1).1
        rw [HNA.out] at h3
        obtain ⟨g, x, y, rfl, h4, h5, h6⟩ := HH5.out a h3
        rw [h1] at h4
        injection h4 with h4
        injection h4 with h7 h8
        subst h7 h8
        rw [HTL.out] at h6
        exact ⟨⟨g, rfl, h5, h6⟩, h3, h2⟩)
      have HA2 : Hid (pre p (at_ L k) = true → IntAt w5 A5 (underTo L p m) b k ∧ b < nu ∧ (underTo L p (k + 1)).length = b + 1) := Lib.hid (fun hp => by
        obtain ⟨h1, h2⟩ := underTo_at hlt hp
        rw [HAB.out.2] at h1 h2
        have h3 := (List.getElem?_eq_some_iff.1 h1).1
        rw [HNU.out] at h3
        exact ⟨int_at HU5.out h1, h3, h2⟩)
      have HN1 : Hid (pre (at_ L k) p = false → (aheadTo L p (k + 1)).length = a) := Lib.hid (fun hp => by rw [aheadTo_no hp]; exact HAB.out.1)
      have HN2 : Hid (pre p (at_ L k) = false → (underTo L p (k + 1)).length = b) := Lib.hid (fun hp => by rw [underTo_no hp]; exact HAB.out.2)
      generalize pre (at_ L k) p = p1 at hb1 HA1 HN1
      generalize pre p (at_ L k) = p2 at hb2 HA2 HN2
      cases ink
      all_goals
        go_wp2_with fail
        refine (hb1.out _).mono ?_
        rintro e w6 ⟨rfl, rfl⟩
        cases p1
        case false =>
          have HL1 := Lib.hid (HN1.out rfl)
          clear HA1 HN1
          go_wp2_with fail
          refine (hb2.out _).mono ?_
          rintro e w6 ⟨rfl, rfl⟩
          cases p2
          case false =>
            have HL2 := Lib.hid (HN2.out rfl)
            go_wp2
            go_roundw
            case rel => exact ⟨k + 1, a, b, q, by rw [HK.out]; simp, by first | rfl | go_num, rfl, by go_num, by omega, by omega, by omega, Lib.hid ⟨HL1.out, HL2.out⟩, by simp⟩
            case measure => simp [intOf]; omega
          case true =>
            obtain ⟨⟨b5, o5, rfl, k3⟩, hb, hl2⟩ := HA2.out rfl
            have HL2 := Lib.hid hl2
            have g4 : ((b : Int) == (nu : Int)) = false := by rw [beq_eq_false_iff_ne]; omega
            have j3 : (0 : Int) ≤ (b : Int) := by omega
            have j4 : (b : Int) < (nu : Int) := by omega
            clear hl2
            go_wp2
            go_roundw
            case rel => exact ⟨k + 1, a, b + 1, q, by rw [HK.out]; simp, by first | rfl | go_num, by go_num, by go_num, by omega, by omega, by omega, Lib.hid ⟨HL1.out, HL2.out⟩, by simp⟩
            case measure => simp [intOf]; omega
        case true =>
          obtain ⟨⟨g, rfl, k1, k2⟩, ha, hl1⟩ := HA1.out rfl
          have HL1 := Lib.hid hl1
          have g3 : ((a : Int) == (na : Int)) = false := by rw [beq_eq_false_iff_ne]; omega
          have j1 : (0 : Int) ≤ (a : Int) := by omega
          have j2 : (a : Int) < (na : Int) := by omega
          clear hl1 HA1 HN1
          go_wp2
          go_quiet (fail)
          obtain ⟨q1, rfl⟩ : ∃ q1, q1 = nq := ⟨_, rfl⟩
          go_wp2_with fail
          refine (hb2.out _).mono ?_
          rintro e w6 ⟨rfl, rfl⟩
          cases p2
          case false =>
            have HL2 := Lib.hid (HN2.out rfl)
            go_wp2
            go_roundw
            case rel => exact ⟨k + 1, a + 1, b, (q + q1), by rw [HK.out]; simp, by first | rfl | go_num, rfl, by go_num, by omega, by omega, by omega, Lib.hid ⟨HL1.out, HL2.out⟩, by simp⟩
            case measure => simp [intOf]; omega
          case true =>
            obtain ⟨⟨b5, o5, rfl, k3⟩, hb, hl2⟩ := HA2.out rfl
            have HL2 := Lib.hid hl2
            have g4 : ((b : Int) == (nu : Int)) = false := by rw [beq_eq_false_iff_ne]; omega
            have j3 : (0 : Int) ≤ (b : Int) := by omega
            have j4 : (b : Int) < (nu : Int) := by omega
            clear hl2
            go_wp2
            go_roundw
            case rel => exact ⟨k + 1, a + 1, b + 1, (q + q1), by rw [HK.out]; simp, by first | rfl | go_num, by go_num, by go_num, by omega, by omega, by omega, Lib.hid ⟨HL1.out, HL2.out⟩, by simp⟩
            case measure => simp [intOf]; omega
    · obtain rfl : k = m := by omega
      have hb0 : decide ((k : Int) < (k : Int)) = false := by simp
      obtain rfl : a = na := by have := HAB.out.1; have := HNA.out; omega
      obtain rfl : b = nu := by have := HAB.out.2; have := HNU.out; omega
      have hfd : Calls Try.prog 28 #[.pointer (some ⟨tb, 0, none⟩), .string s] (w5.drewN q) fun e w' => e = .returned (findV L p) ∧ Below (w5.drewN q).heap.size (w5.drewN q) w' := by
        have h := lfind_any (w5.drewN q) _ _ tb _ ks ((HT.out.next HB5.out).drewN q).tr s HSZ.out
        rw [HL.out, HP.out] at h
        exact h
      obtain ⟨qf, hqf⟩ := HFI.out
      rw [hqf] at hfd
      generalize inTo L p k = z at hfd ⊢
      have HFD := Lib.hid hfd
      have g1 : (z == z) = true := by cases z <;> rfl
      have g2 : ((a : Int) == (a : Int)) = true := by simp
      have g3 : ((b : Int) == (b : Int)) = true := by simp
      clear hqf hfd
      have HBW := Lib.hid (HB.out.trans ((bel_drewN HB5.out q).mono HB.out.size))
      go_wp2_with fail
      refine HFD.out.mono ?_
      rintro e w6 ⟨rfl, hB6⟩
      have HB6 := Lib.hid (HBW.out.trans (hB6.mono HBW.out.size))
      clear hB6
      go_wp2_with fail
      refine (lworks_true _).mono ?_
      rintro e w7 ⟨rfl, hB7⟩
      have HB7 := Lib.hid (HB6.out.trans (hB7.mono HB6.out.size))
      clear hB7
      go_wp2
      go_ret
      exact ⟨rfl, HB7.out⟩
end Go.Proofs.Ytpnkjfjkeoleaaa.LD
