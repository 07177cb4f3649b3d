/- louds: grow's tests; the two lists that grow. -/
import Derived.Test.YtpnkjfjkeoleaaaLgGrowP
import Derived.Test.YtpnkjfjkeoleaaaGPkR
import Derived.Test.YtpnkjfjkeoleaaaLdUnder
import Derived.Test.YtpnkjfjkeoleaaaGBvD
import Derived.Deep.RegionHeld3
import Derived.Deep.AppendLies
import Derived.Deep.RegionLaw
import Derived.BigQuiet
set_option linter.unusedVariables false
set_option maxRecDepth 100000
namespace Go.Proofs.Ytpnkjfjkeoleaaa.LD
open Go.RowKit HK
open Go.Proofs.Ytpnkjfjkeoleaaa.B (bytesOf bytesOf_len bytesOf_lt num4b rk getB Bv bget_any brank_any blen_any clamp clamp_nat wf_i64)

/-- Parents, depths and strings, while they are being made. -/
structure PD (w W : World) (Bl : Nat) (v1 v2 : Value) (n1 n2 : Nat) (ps ds : List Nat) (ls : List ByteArray) : Prop where
  own1 : W.ownsRow w.heap.size 3 1 v1 n1 (ps.map intV)
  own2 : W.ownsRow w.heap.size 3 1 v2 n2 (ds.map intV)
  sep : ∀ k, v1.ownBlock = some k → v2.ownBlock ≠ some k
  row : Row W Bl 9 (ls.map Value.string).toArray
  lo : w.heap.size ≤ Bl
  bel : Below w.heap.size w W
section
variable {w W : World} {Bl : Nat} {v1 v2 : Value} {n1 n2 : Nat} {ps ds : List Nat} {ls : List ByteArray} (h : PD w W Bl v1 v2 n1 n2 ps ds ls)
include h
theorem PD.alloc (o : Obj) : PD w (W.alloc o) Bl v1 v2 n1 n2 ps ds ls :=
  ⟨h.own1.alloc o, h.own2.alloc o, h.sep, h.row.alloc o, h.lo, h.bel.alloc h.bel.size o⟩
theorem PD.drewN (q : Nat) : PD w (W.drewN q) Bl v1 v2 n1 n2 ps ds ls := ⟨h.own1, h.own2, h.sep, h.row, h.lo, bel_drewN h.bel q⟩
theorem PD.drew : PD w W.drew Bl v1 v2 n1 n2 ps ds ls := ⟨h.own1, h.own2, h.sep, h.row, h.lo, h.bel.drew⟩
theorem PD.next {W' : World} (hb : Below W.heap.size W W') : PD w W' Bl v1 v2 n1 n2 ps ds ls :=
  ⟨own_below h.own1 hb (fun k hk => (h.own1.lt k hk).2), own_below h.own2 hb (fun k hk => (h.own2.lt k hk).2), h.sep, h.row.below hb h.row.lt, h.lo, h.bel.trans (hb.mono h.bel.size)⟩
theorem PD.push1 {W' : World} {g cap i : Nat} (hg : W.grownBy W' v1.ownBlock) (ho : W'.ownsRow w.heap.size 3 1 (.slice (some ⟨g, 0, none⟩) (n1 + 1) cap) (n1 + 1) (ps.map intV ++ [.int .i64 (i : Nat)])) (hat : v1.ownBlock = some g ∨ g = W.heap.size) (hne : v1.ownBlock ≠ some Bl) :
    PD w W' Bl (.slice (some ⟨g, 0, none⟩) (n1 + 1) cap) v2 (n1 + 1) n2 (ps ++ [i]) ds ls := by
  refine ⟨by rw [List.map_append]; exact ho, own_at h.own2 (fun k hk => hg.block k (h.own2.lt k hk).2 (fun e => h.sep k e.symm hk)), fun k hk e => ?_, h.row.grown hg (fun e => hne e.symm), h.lo, h.bel.grown hg h.bel.size (fun q e => (h.own1.lt q e).1)⟩
  have hk' : g = k := by injection hk
  subst hk'
  rcases hat with h1 | h1
  · exact h.sep g h1 e
  · have := (h.own2.lt g e).2; omega
theorem PD.push2 {W' : World} {g cap d : Nat} (hg : W.grownBy W' v2.ownBlock) (ho : W'.ownsRow w.heap.size 3 1 (.slice (some ⟨g, 0, none⟩) (n2 + 1) cap) (n2 + 1) (ds.map intV ++ [.int .i64 (d : Nat)])) (hat : v2.ownBlock = some g ∨ g = W.heap.size) (hne : v2.ownBlock ≠ some Bl) :
    PD w W' Bl v1 (.slice (some ⟨g, 0, none⟩) (n2 + 1) cap) n1 (n2 + 1) ps (ds ++ [d]) ls := by
  refine ⟨own_at h.own1 (fun k hk => hg.block k (h.own1.lt k hk).2 (fun e => h.sep k hk e.symm)), by rw [List.map_append]; exact ho, fun k hk e => ?_, h.row.grown hg (fun e => hne e.symm), h.lo, h.bel.grown hg h.bel.size (fun q e => (h.own2.lt q e).1)⟩
  have e' : g = k := by injection e
  subst e'
  rcases hat with h1 | h1
  · exact h.sep g hk h1
  · have := (h.own1.lt g hk).2; omega
theorem PD.ne1 : v1.ownBlock ≠ some Bl := fun e => own_row h.own1 h.row (by decide) e
theorem PD.ne2 : v2.ownBlock ≠ some Bl := fun e => own_row h.own2 h.row (by decide) e
theorem PD.slice1 : ∃ A c, v1 = .slice A n1 c ∧ n1 ≤ c ∧ c ≤ maxLen := own_shape h.own1
theorem PD.slice2 : ∃ A c, v2 = .slice A n2 c ∧ n2 ≤ c ∧ c ≤ maxLen := own_shape h.own2
end
/-- Element k of a list of numbers that lies there. -/
theorem int_cell {W : World} {B : Nat} {A : Option Addr} {n c k x : Nat} {l : List Nat} (h : W.ownsRow B 3 1 (.slice A n c) n (l.map intV)) (hx : l[k]? = some x) : ∃ g, A = some ⟨g, 0, none⟩ ∧ W.cell? ⟨g, k, none⟩ = some (.int .i64 (x : Nat)) ∧ B ≤ g ∧ k < n := by
  have hk := (List.getElem?_eq_some_iff.1 hx).1
  have hl := own_len h
  rw [List.length_map] at hl
  rcases h.2 with ⟨_, h0⟩ | ⟨g, cap, cur, hv, hb, _⟩
  · omega
  · injection hv with h1 h2 h3
    subst h1
    refine ⟨g, rfl, ?_, hb, by omega⟩
    rw [h.cellAt k (by omega), List.getElem?_map, hx]
    rfl

def GrowBad (w : World) (e : Ending) (w' : World) : Prop := e = .returned (.tuple #[.slice none 0 0, .bool false]) ∧ ∃ q, w' = w.drewN q
set_option maxHeartbeats 8000000 in
theorem lgrow_bad (w : World) (S1 E1 S2 E2 bS bI p g n1 N1 n2 N2 nl cl nk wd NN : Nat) (AL : Option Addr) (hS : Bv w S1 E1 bS n1 N1) (hI : Bv w S2 E2 bI n2 N2) (hP : PR w p g nk wd NN) (hn1 : n1 ≤ 1048576) (hn2 : n2 ≤ 1048576) (hnk : nk ≤ 1048576) (hnl : nl ≤ maxLen)
    (hbad : ¬ Checks n1 N1 n2 N2 nl nk) :
    Calls Try.prog 44 #[.pointer (some ⟨bS, 0, none⟩), .pointer (some ⟨bI, 0, none⟩), .slice AL nl cl, .pointer (some ⟨p, 0, none⟩)] w (GrowBad w) := by
  unfold maxLen at hnl
  have hcS := hS.len; have hcI := hI.len
  have hcP : w.cell? ⟨p, 0, none⟩ = some (.int .i64 nk) := hP.1.cell 0
  have ag : ∀ W : World, W.heap = w.heap → ∀ S E, Agree S E w W := fun W hW S E k _ _ => by rw [hW]
  have ce : ∀ (W : World) (a : Addr), W.heap = w.heap → W.cell? a = w.cell? a := fun W a hW => World.cell?_of_block (by rw [hW])
  have HLI : Hid (∀ W : World, W.heap = w.heap → Calls Try.prog 71 #[.pointer (some ⟨bI, 0, none⟩)] W fun e w' => e = .returned (.int .i64 (n2 : Nat)) ∧ ∃ q, w' = W.drewN q) := Lib.hid (fun W hW =>
    (blen_any W bI n2 ((ce W _ hW).trans hcI)).mono (fun e w' h => ⟨h.1, 0, h.2⟩))
  have HLS : Hid (∀ W : World, W.heap = w.heap → Calls Try.prog 71 #[.pointer (some ⟨bS, 0, none⟩)] W fun e w' => e = .returned (.int .i64 (n1 : Nat)) ∧ ∃ q, w' = W.drewN q) := Lib.hid (fun W hW =>
    (blen_any W bS n1 ((ce W _ hW).trans hcS)).mono (fun e w' h => ⟨h.1, 0, h.2⟩))
  have HPL : Hid (∀ W : World, W.heap = w.heap → Calls Try.prog 72 #[.pointer (some ⟨p, 0, none⟩)] W fun e w' => e = .returned (.int .i64 (nk : Nat)) ∧ ∃ q, w' = W.drewN q) := Lib.hid (fun W hW =>
    (plen_any p nk W ((ce W _ hW).trans hcP)).mono (fun e w' h => ⟨h.1, 0, h.2.symm⟩))
  have HRK : Hid (∀ W : World, W.heap = w.heap → Calls Try.prog 56 #[.pointer (some ⟨bI, 0, none⟩), .bool true, .int .i64 (n2 : Nat)] W fun e w' => e = .returned (.int .i64 (rk N2 true n2 : Nat)) ∧ ∃ q, w' = W.drewN q) := Lib.hid (fun W hW => by
    have h := brank_any W S2 E2 bI n2 N2 (hI.agree (ag W hW _ _)) true (n2 : Nat) (wf_i64 _ (by omega))
    rw [clamp_nat _ _ (Nat.le_refl _)] at h
    exact h)
  have HG0 : Hid (∀ W : World, W.heap = w.heap → Calls Try.prog 46 #[.pointer (some ⟨bS, 0, none⟩), .int .i64 0] W fun e w' => e = .returned (.bool (getB N1 n1 0)) ∧ ∃ q, w' = W.drewN q) := Lib.hid (fun W hW => bget_any W S1 E1 bS n1 N1 (hS.agree (ag W hW _ _)) 0 (by decide))
  have HG1 : Hid (∀ W : World, W.heap = w.heap → Calls Try.prog 46 #[.pointer (some ⟨bS, 0, none⟩), .int .i64 1] W fun e w' => e = .returned (.bool (getB N1 n1 1)) ∧ ∃ q, w' = W.drewN q) := Lib.hid (fun W hW => bget_any W S1 E1 bS n1 N1 (hS.agree (ag W hW _ _)) 1 (by decide))
  unfold Checks at hbad
  have hr2 : rk N2 true n2 ≤ 1048576 := Nat.le_trans (B.rk_le N2 true n2) hn2
  obtain ⟨r, hr⟩ : ∃ r, rk N2 true n2 = r := ⟨_, rfl⟩
  obtain ⟨t0, ht0⟩ : ∃ t, getB N1 n1 0 = t := ⟨_, rfl⟩
  obtain ⟨t1, ht1⟩ : ∃ t, getB N1 n1 1 = t := ⟨_, rfl⟩
  rw [hr] at HRK hbad hr2
  rw [ht0] at HG0 hbad
  rw [ht1] at HG1 hbad
  clear hr ht0 ht1 ag ce hcS hcI hcP hS hI hP
  by_cases h1 : n2 ≤ 524287
  case neg =>
    have g1 : decide ((524287 : Int) < (n2 : Int)) = true := by simp; omega
    clear hbad
    clear h1
    go_enter Try.func44, Try.ntmps44
    go_wp2_with fail
    refine (HLI.out _ (by rfl)).mono ?_
    rintro e w1 ⟨rfl, q1, rfl⟩
    go_wp2
    go_ret2
    exact ⟨rfl, q1, by simp⟩
  have g1 : decide ((524287 : Int) < (n2 : Int)) = false := by simp; omega
  by_cases h2 : n1 = 2 * n2 + 1
  case neg =>
    have g2 : ((n1 : Int) == 2 * (n2 : Int) + 1) = false := by rw [beq_eq_false_iff_ne]; omega
    have g2' : ((n1 : Int) != 2 * (n2 : Int) + 1) = true := by rw [bne, g2]; rfl
    clear hbad
    clear h1 h2
    go_enter Try.func44, Try.ntmps44
    go_wp2_with fail
    refine (HLI.out _ (by rfl)).mono ?_
    rintro e w1 ⟨rfl, q1, rfl⟩
    go_wp2_with fail
    refine (HLS.out _ (by rfl)).mono ?_
    rintro e w2 ⟨rfl, q2, rfl⟩
    go_wp2
    go_ret2
    exact ⟨rfl, q1 + q2, by simp⟩
  have g2 : ((n1 : Int) == 2 * (n2 : Int) + 1) = true := by rw [beq_iff_eq]; omega
  have g2' : ((n1 : Int) != 2 * (n2 : Int) + 1) = false := by rw [bne, g2]; rfl
  by_cases h3 : nl + 1 = n2
  case neg =>
    have g3 : ((nl : Int) == (n2 : Int) - 1) = false := by rw [beq_eq_false_iff_ne]; omega
    have g3' : ((nl : Int) != (n2 : Int) - 1) = true := by rw [bne, g3]; rfl
    clear hbad
    clear h1 h2 h3
    go_enter Try.func44, Try.ntmps44
    go_wp2_with fail
    refine (HLI.out _ (by rfl)).mono ?_
    rintro e w1 ⟨rfl, q1, rfl⟩
    go_wp2_with fail
    refine (HLS.out _ (by rfl)).mono ?_
    rintro e w2 ⟨rfl, q2, rfl⟩
    go_wp2
    go_ret2
    exact ⟨rfl, q1 + q2, by simp⟩
  have g3 : ((nl : Int) == (n2 : Int) - 1) = true := by rw [beq_iff_eq]; omega
  have g3' : ((nl : Int) != (n2 : Int) - 1) = false := by rw [bne, g3]; rfl
  by_cases h4 : r = nk
  case neg =>
    have g4 : ((r : Int) == (nk : Int)) = false := by rw [beq_eq_false_iff_ne]; omega
    have g4' : ((r : Int) != (nk : Int)) = true := by rw [bne, g4]; rfl
    clear hbad
    clear h1 h2 h3 h4
    go_enter Try.func44, Try.ntmps44
    go_wp2_with fail
    refine (HLI.out _ (by rfl)).mono ?_
    rintro e w1 ⟨rfl, q1, rfl⟩
    go_wp2_with fail
    refine (HLS.out _ (by rfl)).mono ?_
    rintro e w2 ⟨rfl, q2, rfl⟩
    go_wp2_with fail
    refine (HRK.out _ (by rfl)).mono ?_
    rintro e w3 ⟨rfl, q3, rfl⟩
    go_wp2_with fail
    refine (HPL.out _ (by rfl)).mono ?_
    rintro e w4 ⟨rfl, q4, rfl⟩
    go_wp2
    go_ret2
    exact ⟨rfl, q1 + q2 + q3 + q4, by simp [Nat.add_assoc]⟩
  have g4 : ((r : Int) == (nk : Int)) = true := by rw [beq_iff_eq]; omega
  have g4' : ((r : Int) != (nk : Int)) = false := by rw [bne, g4]; rfl
  by_cases h5 : nk ≤ 20000
  case neg =>
    have g5 : decide ((20000 : Int) < (nk : Int)) = true := by simp; omega
    clear hbad
    clear h1 h2 h3 h4 h5
    go_enter Try.func44, Try.ntmps44
    go_wp2_with fail
    refine (HLI.out _ (by rfl)).mono ?_
    rintro e w1 ⟨rfl, q1, rfl⟩
    go_wp2_with fail
    refine (HLS.out _ (by rfl)).mono ?_
    rintro e w2 ⟨rfl, q2, rfl⟩
    go_wp2_with fail
    refine (HRK.out _ (by rfl)).mono ?_
    rintro e w3 ⟨rfl, q3, rfl⟩
    go_wp2_with fail
    refine (HPL.out _ (by rfl)).mono ?_
    rintro e w4 ⟨rfl, q4, rfl⟩
    go_wp2_with fail
    refine (HPL.out _ (by rfl)).mono ?_
    rintro e w5 ⟨rfl, q5, rfl⟩
    go_wp2
    go_ret2
    exact ⟨rfl, q1 + q2 + q3 + q4 + q5, by simp [Nat.add_assoc]⟩
  have g5 : decide ((20000 : Int) < (nk : Int)) = false := by simp; omega
  by_cases h6 : t0 = true
  case neg =>
    obtain rfl : t0 = false := by simpa using h6
    clear hbad
    clear h1 h2 h3 h4 h5
    go_enter Try.func44, Try.ntmps44
    go_wp2_with fail
    refine (HLI.out _ (by rfl)).mono ?_
    rintro e w1 ⟨rfl, q1, rfl⟩
    go_wp2_with fail
    refine (HLS.out _ (by rfl)).mono ?_
    rintro e w2 ⟨rfl, q2, rfl⟩
    go_wp2_with fail
    refine (HRK.out _ (by rfl)).mono ?_
    rintro e w3 ⟨rfl, q3, rfl⟩
    go_wp2_with fail
    refine (HPL.out _ (by rfl)).mono ?_
    rintro e w4 ⟨rfl, q4, rfl⟩
    go_wp2_with fail
    refine (HPL.out _ (by rfl)).mono ?_
    rintro e w5 ⟨rfl, q5, rfl⟩
    go_wp2_with fail
    refine (HG0.out _ (by rfl)).mono ?_
    rintro e w6 ⟨rfl, q6, rfl⟩
    go_wp2
    go_ret2
    exact ⟨rfl, q1 + q2 + q3 + q4 + q5 + q6, by simp [Nat.add_assoc]⟩
  subst h6
  by_cases h7 : t1 = false
  case neg =>
    obtain rfl : t1 = true := by simpa using h7
    clear hbad
    clear h1 h2 h3 h4 h5 h7
    go_enter Try.func44, Try.ntmps44
    go_wp2_with fail
    refine (HLI.out _ (by rfl)).mono ?_
    rintro e w1 ⟨rfl, q1, rfl⟩
    go_wp2_with fail
    refine (HLS.out _ (by rfl)).mono ?_
    rintro e w2 ⟨rfl, q2, rfl⟩
    go_wp2_with fail
    refine (HRK.out _ (by rfl)).mono ?_
    rintro e w3 ⟨rfl, q3, rfl⟩
    go_wp2_with fail
    refine (HPL.out _ (by rfl)).mono ?_
    rintro e w4 ⟨rfl, q4, rfl⟩
    go_wp2_with fail
    refine (HPL.out _ (by rfl)).mono ?_
    rintro e w5 ⟨rfl, q5, rfl⟩
    go_wp2_with fail
    refine (HG0.out _ (by rfl)).mono ?_
    rintro e w6 ⟨rfl, q6, rfl⟩
    go_wp2_with fail
    refine (HG1.out _ (by rfl)).mono ?_
    rintro e w7 ⟨rfl, q7, rfl⟩
    go_wp2
    go_ret2
    exact ⟨rfl, q1 + q2 + q3 + q4 + q5 + q6 + q7, by simp [Nat.add_assoc]⟩
  subst h7
  exact (hbad ⟨h1, h2, h3, h4, h5, rfl, rfl⟩).elim
end Go.Proofs.Ytpnkjfjkeoleaaa.LD
