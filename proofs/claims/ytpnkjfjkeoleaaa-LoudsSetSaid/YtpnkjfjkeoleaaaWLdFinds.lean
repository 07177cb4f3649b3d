/- louds: the law LoudsFinds. -/
import Derived.Test.YtpnkjfjkeoleaaaLwFront
set_option linter.unusedVariables false
set_option maxRecDepth 100000
namespace Go.Proofs.Ytpnkjfjkeoleaaa.LD
open Go.RowKit HK
open Go.Proofs.Ytpnkjfjkeoleaaa.B (bytesOf bytesOf_len bytesOf_lt)

theorem hits_256 {L : List Str} (hg : Good L) (p : Str) : hitsTo L p (min p.length 256) = hits L p := by
  rcases Nat.le_total p.length 256 with h | h
  · rw [Nat.min_eq_left h]; rfl
  · rw [Nat.min_eq_right h, hitsTo_256 hg p h]
theorem hitsC_len (l : List (Nat × Nat)) : (hitsC l).length = l.length * 2 := by
  induction l with
  | nil => rfl
  | cons x l ih =>
    have e : hitsC (x :: l) = hitC x ++ hitsC l := by simp [hitsC]
    rw [e, List.length_append, ih]
    simp [hitC]; omega
theorem hitsC_at : ∀ {l : List (Nat × Nat)} {j : Nat} {h : Nat × Nat}, l[j]? = some h → (hitsC l)[j * 2]? = some (.int .i64 (h.1 : Nat)) ∧ (hitsC l)[j * 2 + 1]? = some (.int .i64 (h.2 : Nat))
  | [], j, h, e => by simp at e
  | x :: l, 0, h, e => by
    simp only [List.getElem?_cons_zero, Option.some.injEq] at e
    subst e
    have e : hitsC (x :: l) = hitC x ++ hitsC l := by simp [hitsC]
    rw [e]
    exact ⟨rfl, rfl⟩
  | x :: l, j + 1, h, e => by
    rw [List.getElem?_cons_succ] at e
    have ih := hitsC_at e
    have e : hitsC (x :: l) = hitC x ++ hitsC l := by simp [hitsC]
    have hl : (hitC x).length = 2 := rfl
    rw [e]
    refine ⟨?_, ?_⟩
    · rw [List.getElem?_append_right (by omega), hl, show (j + 1) * 2 - 2 = j * 2 by omega]; exact ih.1
    · rw [List.getElem?_append_right (by omega), hl, show (j + 1) * 2 + 1 - 2 = j * 2 + 1 by omega]; exact ih.2
/-- A list of hits that lies there. -/
def HitAt (w : World) (A : Option Addr) (l : List (Nat × Nat)) (j : Nat) : Prop := ∃ g x y, A = some ⟨g, 0, none⟩ ∧ l[j]? = some (x, y) ∧ w.cell? ⟨g, j * 2, none⟩ = some (.int .i64 (x : Nat)) ∧ w.cell? ⟨g, j * 2 + 1, none⟩ = some (.int .i64 (y : Nat))
theorem hit_at {w : World} {base : Nat} {t : TypeId} {v : Value} {l : List (Nat × Nat)} (h : w.ownsRow base t 2 v l.length (hitsC l)) : ∃ A c, v = .slice A l.length c ∧ ∀ W j, Below w.heap.size w W → j < l.length → HitAt W A l j := by
  rcases Nat.eq_zero_or_pos l.length with h0 | h0
  · rcases h.2 with ⟨hv, h1⟩ | ⟨g, cap, cur, hv, _⟩
    · rw [h0]; exact ⟨none, 0, hv, fun W j _ hj => by omega⟩
    · exact ⟨_, _, hv, fun W j _ hj => by omega⟩
  · obtain ⟨g, c, rfl, _, _⟩ := own_some h h0
    refine ⟨_, c, rfl, fun W j hW hj => ?_⟩
    have hlj := List.getElem?_eq_getElem hj
    obtain ⟨h1, h2⟩ := hitsC_at hlj
    have k1 := (h.cellAt (j * 2) (by omega)).trans h1
    have k2 := (h.cellAt (j * 2 + 1) (by omega)).trans h2
    exact ⟨g, _, _, rfl, hlj, (hW.cell (p := ⟨g, j * 2, none⟩) (cell_lt k1)).trans k1, (hW.cell (p := ⟨g, j * 2 + 1, none⟩) (cell_lt k2)).trans k2⟩
/-- What Find and the reference's Find say, side by side. -/
theorem find_two (L : List Str) (p : Str) : (∃ q : Nat, findV L p = .tuple #[.int .i64 (q : Nat), .bool true] ∧ rfindV L p = .int .i64 (q : Nat)) ∨ (findV L p = .tuple #[.int .i64 0, .bool false] ∧ rfindV L p = .int .i64 (-1)) := by
  unfold findV rfindV
  cases idx L p with
  | none => exact .inr ⟨rfl, rfl⟩
  | some q => exact .inl ⟨q, rfl, rfl⟩

set_option maxHeartbeats 4000000 in
theorem finds_all (A : Option Addr) (n c : Nat) (ss0 : List ByteArray) (s : ByteArray) (w : World) (hm : n ≤ maxLen) (hs : ArgStr w A n c ss0) (hsz : s.size ≤ maxLen) :
    Calls Try.prog 6 #[.slice A n c, .string s] w fun e w' => e = .returned (.bool true) ∧ Below w.heap.size w w' := by
  have HSET := Lib.hid (lset_any w A n c ss0 hm hs.2.2.2 hs.2.2.1)
  have HSZ := Lib.hid hsz
  unfold maxLen at hm hsz
  clear hs hsz
  go_enter Try.func6, Try.ntmps6
  go_wp2_with fail
  refine HSET.out.mono ?_
  intro e w1 hP
  obtain ⟨A1, m, c1, ss, rfl, hF⟩ := setF_of hP
  have HF := Lib.hid hF
  have hfew := hF.few
  clear hP hF
  go_wp2_with fail
  refine HF.out.build.mono ?_
  rintro e w2 ⟨tb, ks, rfl, hT, hB⟩
  have HT := Lib.hid (both_of HF.out hT hB)
  have HB := Lib.hid (HF.out.bel.trans (hB.mono HF.out.bel.size))
  clear hT hB
  have HFT := Lib.hid (find_two (ss.map bytesOf) (bytesOf s))
  have HFD := Lib.hid (lfind_any w2 _ _ tb _ ks HT.out.tr s HSZ.out)
  have HRF : Hid (∀ W, Below w2.heap.size w2 W → Calls Try.prog 29 #[.slice A1 m c1, .string s] W fun e w' => e = .returned (rfindV (ss.map bytesOf) (bytesOf s)) ∧ W = w') := Lib.hid (fun W hW => by
    have h2 := HT.out.next hW
    exact rfind_any W _ A1 m c1 ss s (by unfold maxLen; omega) h2.size h2.sl)
  have HPF : Hid (∀ W, Below w2.heap.size w2 W → Calls Try.prog 30 #[.pointer (some ⟨tb, 0, none⟩), .string s] W (PrefPost W 48 (hits (ss.map bytesOf) (bytesOf s)))) := Lib.hid (fun W hW => lpref_any W _ _ tb _ ks (HT.out.next hW).tr s HSZ.out)
  have HRP : Hid (∀ W, Below w2.heap.size w2 W → Calls Try.prog 31 #[.slice A1 m c1, .string s] W (PrefPost W 49 (hits (ss.map bytesOf) (bytesOf s)))) := Lib.hid (fun W hW => by
    have h2 := HT.out.next hW
    have h := rpref_any W A1 m c1 ss s (by unfold maxLen; omega) h2.size HSZ.out (h2.sl.more h2.low)
    rw [← bytesOf_len s, hits_256 h2.tr.good] at h
    exact h)
  have hlen : (hits (ss.map bytesOf) (bytesOf s)).length ≤ 2 ^ 63 - 1 := by
    have h := hitsTo_len (ss.map bytesOf) (bytesOf s) (bytesOf s).length
    have e : (hits (ss.map bytesOf) (bytesOf s)).length ≤ s.size := by rw [← bytesOf_len s]; exact h
    exact Nat.le_trans e HSZ.out
  obtain ⟨H, hH⟩ : ∃ H, hits (ss.map bytesOf) (bytesOf s) = H := ⟨_, rfl⟩
  rw [hH] at HPF HRP hlen
  clear hH
  generalize findV (ss.map bytesOf) (bytesOf s) = fv at HFT HFD
  generalize rfindV (ss.map bytesOf) (bytesOf s) = rv at HFT HRF
  go_wp2_with fail
  refine HFD.out.mono ?_
  rintro e w3 ⟨rfl, hB3⟩
  have HB3 := Lib.hid hB3
  clear hB3
  rcases HFT.out with ⟨q, rfl, rfl⟩ | ⟨rfl, rfl⟩
  case' inl =>
    have g1 : decide ((0 : Int) ≤ (q : Int)) = true := by simp
    have g2 : max (q : Int) 0 = (q : Int) := by omega
  case' inr =>
    have g1 : decide ((0 : Int) ≤ (-1 : Int)) = false := by decide
    have g2 : max (-1 : Int) 0 = 0 := by decide
  all_goals
    go_wp2_with fail
    refine (HRF.out w3 HB3.out).mono ?_
    rintro e w4 ⟨rfl, rfl⟩
    go_wp2_with fail
    refine (HPF.out w3 HB3.out).mono ?_
    rintro e w4 ⟨v4, rfl, hown4, hB4⟩
    obtain ⟨A4, c4, rfl, hat4⟩ := hit_at hown4
    have HAT4 := Lib.hid hat4
    have HB4 := Lib.hid (HB3.out.trans (hB4.mono HB3.out.size))
    clear hown4 hB4 hat4
    go_wp2_with fail
    refine (HRP.out w4 HB4.out).mono ?_
    rintro e w5 ⟨v5, rfl, hown5, hB5⟩
    obtain ⟨A5, c5, rfl, hat5⟩ := hit_at hown5
    have HA4 : Hid (∀ j, j < H.length → HitAt w5 A4 H j) := Lib.hid (fun j hj => HAT4.out w5 j hB5 hj)
    have HA5 : Hid (∀ j, j < H.length → HitAt w5 A5 H j) := Lib.hid (fun j hj => hat5 w5 j (Below.refl _ _) hj)
    have HB5 := Lib.hid (HB.out.trans ((HB4.out.trans (hB5.mono HB4.out.size)).mono HB.out.size))
    clear hown5 hB5 hat5
    obtain ⟨t, ht⟩ : ∃ t, H.length = t := ⟨_, rfl⟩
    rw [ht] at HA4 HA5 hlen ⊢
    clear ht
    have g3 : ((t : Int) == (t : Int)) = true := by simp
    go_wp2
    clear g2
    go_loopw [52] (fun v wr => ∃ (j q : Nat), v = .int .i64 j ∧ j ≤ t ∧ wr = w5.drewN q) (fun v _ => t - (intOf v).toNat)
    case atStart => exact ⟨0, 0, rfl, Nat.zero_le _, rfl⟩
    case round =>
      obtain ⟨j, q2, rfl, hj, rfl⟩ := hrel
      by_cases hlt : j < t
      · have hb0 : decide ((j : Int) < (t : Int)) = true := by simp; omega
        obtain ⟨ga, xa, ya, rfl, e4, k4, l4⟩ := HA4.out j hlt
        obtain ⟨gb, xb, yb, rfl, e5, k5, l5⟩ := HA5.out j hlt
        rw [e4] at e5
        injection e5 with e5
        injection e5 with e6 e7
        subst e6 e7
        have i1 : (0 : Int) ≤ (j : Int) := by omega
        have i2 : (j : Int) < (t : Int) := by omega
        clear e4
        go_wp2
        go_quiet (fail)
        go_wp2
        go_roundw
        case rel => exact ⟨j + 1, q2 + nq, by go_num, by omega, by simp⟩
        case measure => simp [intOf]; omega
      · obtain rfl : j = t := by omega
        have hb0 : decide ((j : Int) < (j : Int)) = false := by simp
        go_wp2_with fail
        refine (lworks_true _).mono ?_
        rintro e w6 ⟨rfl, hB6⟩
        have HB6 := Lib.hid ((bel_drewN HB5.out q2).trans (hB6.mono HB5.out.size))
        clear hB6
        go_wp2
        go_ret
        exact ⟨rfl, HB6.out⟩
end Go.Proofs.Ytpnkjfjkeoleaaa.LD
