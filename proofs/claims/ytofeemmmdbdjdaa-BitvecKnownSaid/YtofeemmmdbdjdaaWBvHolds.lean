/- bitvec: the law BitvecHolds. -/
import Derived.Test.YtofeemmmdbdjdaaBvRef2
import Derived.Test.YtofeemmmdbdjdaaMem4
set_option linter.unusedVariables false
namespace Go.Proofs.Ytofeemmmdbdjdaa.B
open Go.RowKit HK

def IsBool (v : Value) : Prop := ∃ b, v = .bool b
theorem isBool_map (l : List Bool) : ∀ y ∈ l.map Value.bool, IsBool y := by
  intro y hy
  obtain ⟨b, _, rfl⟩ := List.mem_map.1 hy
  exact ⟨b, rfl⟩
theorem bool_oneCell (l : List Bool) : ∀ u ∈ l.map Value.bool, u.oneCell' = true := by
  intro u hu
  obtain ⟨v, _, rfl⟩ := List.mem_map.1 hu
  rfl
theorem same_bits (l : List Bool) (n : Nat) (h : l.length = n) : decide (bitsL (bitsN l) n = l) = true := by
  subst h
  rw [bitsL_bits]; simp

set_option maxHeartbeats 4000000 in
theorem holds_mid (A : Option Addr) (n c : Nat) (l : List Bool) (i : Int) (w : World) (hn : n ≤ 3000) (hs : Sl w w.heap.size A n (l.map Value.bool)) (hi : (Lit.int .i64 i).wf = true) :
    Calls Try.prog 6 #[.slice A n c, .int .i64 i] w fun e w' => e = .returned (.bool true) ∧ Below w.heap.size w w' := by
  have hri := rg_i64 i hi
  have hnb : decide ((3000 : Int) < (n : Int)) = false := by simp; omega
  have hlen : Hid (l.length = n) := Lib.hid (by have := hs.1; simpa using this)
  have HS := Lib.hid hs; clear hs
  obtain ⟨i0, hif, hz0, hz1, hz2⟩ := info_parts infoBool
  have hown0 : (w.alloc (.cells #[] 4)).ownsRow w.heap.size 4 1 (.slice (some ⟨w.heap.size, 0, none⟩) 0 0) 0 [] := World.ownsRow_lit w #[] 0 (Nat.le_refl _) (Nat.zero_le _) rfl
  have HO0 := Lib.hid hown0; clear hown0
  go_enter Try.func6, Try.ntmps6
  go_wp2_with (at_builtin; refine wpList_append_sl _ rfl _ _ 22 rfl w.heap.size 4 i0 (.bool false) 1 Try.underlying22 hif hz0 hz1 hz2 rfl _ _ _ rfl HO0.out w.heap.size _ _ _ _ rfl (HS.out.alloc (Nat.le_refl _) _) (bool_oneCell l) (by unfold maxLen; omega) (by omega) (by simp) ?_; intro v1 w1 hown1 hgrow1 hblk1; simp only [Nat.zero_add, List.nil_append] at hown1; obtain ⟨A1, c1, rfl, hc1, hcm1⟩ := own_shape hown1)
  have hB1 : Below w.heap.size w w1 := ((Below.refl _ w).alloc (Nat.le_refl _) _).grown hgrow1 (by simp) (fun q e => by cases e; exact Nat.le_refl _)
  have hlt1 := Lib.hid hown1.lt
  have HO1 := Lib.hid hown1; clear hown1 hgrow1 hblk1
  refine (bnew_any w1 A1 n c1 l (by omega) (Sl.of_own HO1.out)).mono ?_
  rintro e w2 ⟨b, rfl, hbv, hB2⟩
  have hs1 := hB1.size
  have hs2 := hB2.size
  have hB12 := hB1.trans (hB2.mono hs1)
  have HO2 := Lib.hid (own_below HO1.out hB2 (fun q e => (hlt1.out q e).2))
  have HV := Lib.hid hbv; clear hbv hB2
  go_wp2_with fail
  refine (rsame_any w2 w2.heap.size w.heap.size A1 A n c1 n c l l (by omega) (by omega) (Sl.of_own HO2.out) (HS.out.below hB12)).mono ?_
  rintro e w3 ⟨rfl, hq3⟩
  have hdt : decide (l = l) = true := by simp
  rw [hdt]; clear hdt
  have hz3 := qsize hq3
  have HV3 := Lib.hid (HV.out.quiet hq3)
  have HO3 := Lib.hid (own_below HO2.out (qbel w2.heap.size hq3) (fun q e => (HO2.out.lt q e).2))
  have hB3 := hB12.trans (qbel _ hq3)
  have HBU := Lib.hid (BumpV.start (isBool_map l) HO3.out)
  have HZ3 := Lib.hid hz3
  clear hq3 hz3 HO2 HO1 HO0 HO3 HV
  go_wp2_with fail
  go_loopw [8] (fun ix wr => ∃ k : Nat, k ≤ n ∧ ix = .int .i64 k ∧ BumpV IsBool 4 w3 wr w.heap.size (.slice A1 n c1) n) (fun ix _ => n - (intOf ix).toNat)
  case atStart => exact ⟨0, Nat.zero_le _, rfl, HBU.out⟩
  case round =>
    obtain ⟨k, hk, rfl, hst⟩ := hrel
    by_cases hlt : k < n
    · obtain ⟨gm, y, ⟨yb, rfl⟩, rfl, hcy, hfy, hnext⟩ := hst.at_ hlt
      have HN := Lib.hid hnext; clear hnext hst
      go_wp2
      go_roundw
      case rel => exact ⟨k + 1, by omega, by go_num, HN.out _ ⟨_, rfl⟩⟩
      case measure => simp [intOf]; omega
    · obtain rfl : n = k := by omega
      have hBr := hB3.trans (hst.below (Nat.le_refl _) hB3.size)
      have HVr := Lib.hid (HV3.out.agree (hst.agree (by rw [HZ3.out]; exact Nat.le_refl _) (fun q e => .inl (hlt1.out q e).2)))
      have hsr := hst.2.size
      have hzr : w2.heap.size ≤ wr.heap.size := by have := HZ3.out; omega
      clear hst
      have hc0 := HVr.out.len
      go_wp2_with fail
      refine (blen_any _ _ _ hc0).mono ?_
      rintro e w' ⟨rfl, hw'⟩
      rw [hw']; clear hw'
      go_wp2_with fail
      refine (bbits_any wr _ w2.heap.size b n _ HVr.out hzr (by omega)).mono ?_
      rintro e w4 ⟨v4, rfl, hown4, hB4⟩
      obtain ⟨A4, c4, rfl, -, -⟩ := own_shape hown4
      have HO4 := Lib.hid hown4; clear hown4
      have hBr4 := hBr.trans (hB4.mono hBr.size)
      have HV4 := Lib.hid (HVr.out.below hB4 hzr)
      clear hB4
      go_wp2_with fail
      refine (rsame_any w4 w4.heap.size w.heap.size A4 A n c4 n c (bitsL (bitsN l) n) l (by omega) (by omega) (Sl.of_own HO4.out) (HS.out.below hBr4)).mono ?_
      rintro e w5 ⟨rfl, hq5⟩
      have hB5 := hBr4.trans (qbel _ hq5)
      have HV5 := Lib.hid (HV4.out.quiet hq5)
      rw [same_bits l n hlen.out]
      clear hq5
      obtain ⟨x, hx⟩ : ∃ x, getB (bitsN l) n i = x := ⟨_, rfl⟩
      have hg := bget_any w5 _ _ b n _ HV5.out i hi
      rw [hx] at hg
      have HG := Lib.hid hg; clear hg
      have HX := Lib.hid hx; clear hx
      go_wp2_with fail
      refine HG.out.mono ?_
      rintro e w6 ⟨rfl, hq6⟩
      have hB6 := hB5.trans (qbel _ hq6)
      clear hq6
      have hg := rget_any w6 w.heap.size A n c l i (by omega) hi (HS.out.below hB6)
      rw [HX.out] at hg
      have HG2 := Lib.hid hg; clear hg
      go_wp2_with fail
      refine HG2.out.mono ?_
      rintro e w' ⟨rfl, rfl⟩
      have hxx : (x == x) = true := by simp
      go_wp2_with fail
      refine (bworks_true w6).mono ?_
      rintro e w7 ⟨rfl, hB7⟩
      go_wp2
      go_ret
      exact ⟨rfl, hB6.trans (hB7.mono hB6.size)⟩

theorem holds_all (A : Option Addr) (n c : Nat) (l : List Bool) (i : Int) (w : World) (hm : n ≤ maxLen) (hs : Sl w w.heap.size A n (l.map Value.bool)) (hi : (Lit.int .i64 i).wf = true) :
    Calls Try.prog 6 #[.slice A n c, .int .i64 i] w fun e w' => e = .returned (.bool true) ∧ Below w.heap.size w w' := by
  by_cases hbig : 3000 < n
  · unfold maxLen at hm
    have hnb : decide ((3000 : Int) < (n : Int)) = true := by simp; omega
    clear hs
    go_enter Try.func6, Try.ntmps6
    go_wp2
    go_ret
    exact ⟨rfl, Below.refl _ _⟩
  · exact holds_mid A n c l i w (by omega) hs hi
end Go.Proofs.Ytofeemmmdbdjdaa.B
