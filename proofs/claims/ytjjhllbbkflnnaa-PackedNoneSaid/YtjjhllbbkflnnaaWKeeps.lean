/- The walk of PackedKeeps. -/
import Derived.Test.YtjjhllbbkflnnaaPkRef
import Derived.Test.YtjjhllbbkflnnaaMem2
set_option linter.unusedVariables false
namespace Go.Proofs.Ytjjhllbbkflnnaa
open Go.RowKit HK

theorem u64_oneCell (l : List Nat) : ∀ u ∈ l.map u64v, u.oneCell' = true := by
  intro u hu
  obtain ⟨v, _, rfl⟩ := List.mem_map.1 hu
  rfl
theorem has_get (l : List Nat) : ∀ i v, l[i]? = some v → v = packN (widthL l) l / 2 ^ (i * widthL l) % 2 ^ widthL l := by
  intro i v h
  obtain ⟨hi, rfl⟩ := List.getElem?_eq_some_iff.1 h
  rw [Nat.mul_comm, packN_digit (widthL l) l i (lt_widthL l) hi]
/-- What is kept of a sequence where block q alone is written. -/
theorem PR.grown {w w' : World} {b g n wd N q : Nat} (h : PR w b g n wd N) (hg : w.grownBy w' (some q)) (h1 : q ≠ b) (h2 : q ≠ g) : PR w' b g n wd N :=
  ⟨h.1.grown hg (fun e => h1 (by injection e with e; exact e.symm)), h.2.grown hg (fun e => h2 (by injection e with e; exact e.symm))⟩

/-- The state after 'mine' was made and handed to New: mine is v, the sequence lies in b and g. -/
def KeepSt (w wr : World) (v : Value) (b g n wd N S : Nat) : Prop :=
  (∃ ys : List Nat, ys.length = n ∧ wr.ownsRow w.heap.size 27 1 v n (ys.map u64v)) ∧ PR wr b g n wd N ∧ Below w.heap.size w wr ∧ (∀ q, v.ownBlock = some q → w.heap.size ≤ q ∧ q < S) ∧ S ≤ b ∧ S ≤ g
theorem KeepSt.at_ {w wr : World} {A : Option Addr} {c b g n wd N S k : Nat} (h : KeepSt w wr (.slice A n c) b g n wd N S) (hk : k < n) :
    ∃ gm y, A = some ⟨gm, 0, none⟩ ∧ wr.cell? ⟨gm, k, none⟩ = some (.int .u64 (y : Nat)) ∧ wr.frozen? ⟨gm, k, none⟩ = false ∧
      ∀ z : Nat, KeepSt w (wr.setCell ⟨gm, k, none⟩ (.int .u64 (z : Int))) (.slice A n c) b g n wd N S := by
  obtain ⟨⟨ys, hy, hown⟩, hpr, hB, hq, h1, h2⟩ := h
  rcases hown.2 with ⟨_, h0⟩ | ⟨gm, cap, cur, hv, hbg, hr⟩
  · omega
  · injection hv with hA _ hc
    subst hA hc
    refine ⟨gm, ys[k], rfl, ?_, hown.frozenAt k, fun z => ?_⟩
    · rw [hown.cellAt k (by omega), List.getElem?_map, List.getElem?_eq_getElem (by omega)]; rfl
    · have hs := hown.stored k (.int .u64 (z : Int))
      obtain ⟨hq1, hq2⟩ := hq gm rfl
      refine ⟨⟨ys.set k z, by simp [hy], ?_⟩, hpr.grown hs.2 (by omega) (by omega), hB.setCell (p := ⟨gm, k, none⟩) hq1 _, hq, h1, h2⟩
      rw [List.map_set]
      exact hs.1

set_option maxHeartbeats 2000000 in
theorem keeps_walk (w : World) (A : Option Addr) (n c : Nat) (l : List Nat) (i : Int) (hn : n ≤ 3000) (hl : ∀ v ∈ l, v < 2 ^ 64) (hs : Sl w w.heap.size A n (l.map u64v))
    (hi1 : -9223372036854775808 ≤ i) (hi2 : i ≤ 9223372036854775807) :
    Calls Try.prog 3 #[.slice A n c, .int .i64 i] w fun e w' => e = .returned (.bool true) ∧ Below w.heap.size w w' := by
  have hnb : decide ((3000 : Int) < (n : Int)) = false := by simp; omega
  have hlen : Hid (l.length = n) := Lib.hid (by have := hs.1; simpa using this)
  have HL := Lib.hid hl; clear hl
  have HS := Lib.hid hs; clear hs
  obtain ⟨i0, hif, hz0, hz1, hz2⟩ := info_parts infoU64
  have hown0 : (w.alloc (.cells #[] 27)).ownsRow w.heap.size 27 1 (.slice (some ⟨w.heap.size, 0, none⟩) 0 0) 0 [] := World.ownsRow_lit w #[] 0 (Nat.le_refl _) (Nat.zero_le _) rfl
  have HO0 := Lib.hid hown0; clear hown0
  go_enter Try.func3, Try.ntmps3
  go_wp2_with (at_builtin; refine wpList_append_sl _ rfl _ _ 22 rfl w.heap.size 27 i0 (.int .u64 0) 8 Try.underlying22 hif hz0 hz1 hz2 rfl _ _ _ rfl HO0.out w.heap.size _ _ _ _ rfl (HS.out.alloc (Nat.le_refl _) _) (u64_oneCell l) (by unfold maxLen; omega) (by omega) (by simp) ?_; intro v1 w1 hown1 hgrow1 hblk1; simp only [Nat.zero_add, List.nil_append] at hown1; obtain ⟨A1, c1, rfl, hc1, hcm1⟩ := own_shape hown1)
  have hB1 : Below w.heap.size w w1 := ((Below.refl _ w).alloc (Nat.le_refl _) _).grown hgrow1 (by simp) (fun q e => by cases e; exact Nat.le_refl _)
  have hlt1 := hown1.lt
  have HO1 := Lib.hid hown1; clear hown1 hgrow1 hblk1
  refine (pnew_walk w1 A1 n c1 l (by omega) HL.out (Sl.of_own HO1.out)).mono ?_
  rintro e w2 ⟨b, g, rfl, hpr, hb, hg, hB2⟩
  have hst : KeepSt w w2 (.slice A1 n c1) b g n (widthL l) (packN (widthL l) l) w1.heap.size :=
    ⟨⟨l, hlen.out, own_below HO1.out hB2 (fun q e => (hlt1 q e).2)⟩, hpr, hB1.trans (hB2.mono hB1.size), hlt1, hb, hg⟩
  have HST := Lib.hid hst; clear hst hpr hB2 hlt1 HO1 hb hg
  have h64 : widthL l ≤ 64 := widthL_le_64 l HL.out
  go_wp2_with fail
  go_loopw [8] (fun ix wr => ∃ k : Nat, k ≤ n ∧ ix = .int .i64 k ∧ KeepSt w wr (.slice A1 n c1) b g n (widthL l) (packN (widthL l) l) w1.heap.size) (fun ix _ => n - (intOf ix).toNat)
  case atStart => exact ⟨0, Nat.zero_le _, rfl, HST.out⟩
  case round =>
    obtain ⟨k, hk, rfl, hst⟩ := hrel
    by_cases hlt : k < n
    · obtain ⟨gm, y, rfl, hcy, hfy, hnext⟩ := hst.at_ hlt
      have HN := Lib.hid hnext; clear hnext hst
      go_wp2
      go_roundw
      case rel =>
        refine ⟨k + 1, by omega, by go_num, ?_⟩
        have h1 := HN.out ((y + 1) % 2 ^ 64)
        have e1 : (((y + 1) % 2 ^ 64 : Nat) : Int) = IntKind.u64.wrap ((y : Int) + 1) := by rw [IntKind.wrap_u64]; simp
        rw [e1] at h1
        exact h1
      case measure => simp [intOf]; omega
    · obtain rfl : n = k := by omega
      obtain ⟨_, hpr, hB, _⟩ := hst
      have HPR := Lib.hid hpr; clear hpr
      go_wp2_with fail
      refine (has_true wr b g n (widthL l) (packN (widthL l) l) A c w.heap.size l (by omega) h64 HPR.out (HS.out.below hB) (has_get l)).mono ?_
      rintro e w3 ⟨rfl, hq3⟩
      have HP3 := Lib.hid (HPR.out.quiet hq3)
      have hB3 := hB.trans (bel_quiet _ hq3)
      clear hq3 hB HPR
      have hc1 : w3.cell? ⟨b, 1, none⟩ = some (.int .i64 (widthL l)) := HP3.out.1.cell 1
      go_wp2_with fail
      refine (pwidth_any _ _ _ hc1).mono ?_
      rintro e w' ⟨rfl, rfl⟩
      go_wp2_with fail
      refine (rwidth_any _ _ _ _ w.heap.size l (by unfold maxLen; omega) HL.out (HS.out.below hB3)).mono ?_
      rintro e w' ⟨rfl, rfl⟩
      have hne : ((widthL l : Int) != (widthL l : Int)) = false := by simp
      by_cases hin : 0 ≤ i ∧ i < (n : Int)
      · obtain ⟨hin1, hin2⟩ := hin
        obtain ⟨j, rfl⟩ := Int.eq_ofNat_of_zero_le hin1
        have hjn : j < n := by omega
        obtain ⟨b1, o1, u1, rfl, hb1, hu1, hcu⟩ := HS.out.at_ hjn
        obtain ⟨v1, hv1, rfl⟩ := at_u64 hu1
        have hcv : w3.cell? ⟨b1, o1 + j, none⟩ = some (.int .u64 (v1 : Int)) := (hB3.cell (p := ⟨b1, o1 + j, none⟩) hb1).trans hcu
        have hg := pget2_in b g n (widthL l) j (packN (widthL l) l) w3 (by omega) h64 hjn HP3.out
        rw [← has_get l j v1 hv1] at hg
        have HG := Lib.hid hg; clear hg hu1 hv1 hcu
        have hlt0 : decide ((j : Int) < 0) = false := by simp
        go_wp2_with fail
        refine HG.out.mono ?_
        rintro e w4 ⟨rfl, hq4⟩
        have hB4 := hB3.trans (bel_quiet _ hq4)
        have hcv4 : w4.cell? ⟨b1, o1 + j, none⟩ = some (.int .u64 (v1 : Int)) := ((bel_quiet (w.heap.size) hq4).cell (p := ⟨b1, o1 + j, none⟩) hb1).trans hcv
        clear hq4 hcv
        have heq : ((v1 : Int) == (v1 : Int)) = true := by simp
        go_wp2_with fail
        refine (works_true w4).mono ?_
        rintro e w5 ⟨rfl, hB5⟩
        go_wp2
        go_ret
        exact ⟨rfl, hB4.trans (hB5.mono hB4.size)⟩
      · have hc0 : w3.cell? ⟨b, 0, none⟩ = some (.int .i64 n) := HP3.out.1.cell 0
        have hg := pget2_out b n i w3 hc0 (by omega)
        have HG := Lib.hid hg; clear hg
        go_wp2_with fail
        refine HG.out.mono ?_
        rintro e w4 ⟨rfl, rfl⟩
        by_cases hneg : i < 0
        · have hlt0 : decide (i < 0) = true := by simpa using hneg
          go_wp2_with fail
          refine (works_true w3).mono ?_
          rintro e w5 ⟨rfl, hB5⟩
          go_wp2
          go_ret
          exact ⟨rfl, hB3.trans (hB5.mono hB3.size)⟩
        · have hlt0 : decide (i < 0) = false := by simpa using hneg
          have hge : (n : Int) ≤ i := by omega
          go_wp2_with fail
          refine (works_true w3).mono ?_
          rintro e w5 ⟨rfl, hB5⟩
          go_wp2
          go_ret
          exact ⟨rfl, hB3.trans (hB5.mono hB3.size)⟩

set_option maxHeartbeats 1000000 in
theorem keeps_long (w : World) (A : Option Addr) (n c : Nat) (i : Int) (hn : 3000 < n) :
    Calls Try.prog 3 #[.slice A n c, .int .i64 i] w fun e w' => e = .returned (.bool true) ∧ Below w.heap.size w w' := by
  have hnb : decide ((3000 : Int) < (n : Int)) = true := by simp; omega
  go_enter Try.func3, Try.ntmps3
  go_wp2
  go_ret
  exact ⟨rfl, Below.refl _ _⟩
theorem keeps_all (a0 : Option Addr) (len0 cap0 : Nat) (z0 : List Int) (a1 : Int) (w : World) (w0 : ArgRow .u64 w a0 len0 cap0 z0) (w1 : (Lit.int .i64 a1).wf = true) :
    Calls Try.prog 3 #[.slice a0 len0 cap0, .int .i64 a1] w fun e w' => e = .returned (.bool true) ∧ Below w.heap.size w w' := by
  by_cases h : len0 ≤ 3000
  · obtain ⟨l, hl, hc, hcm, hw, hs⟩ := arg_sl w0 nn_u64
    have hr := rg_i64 a1 w1
    exact keeps_walk w a0 len0 cap0 l a1 h (fun v hv => lt_u64 v (hw v hv)) hs hr.1 hr.2
  · exact keeps_long w a0 len0 cap0 a1 (by omega)
end Go.Proofs.Ytjjhllbbkflnnaa
