/- bitvec: Select, Get. -/
import Derived.Test.YtofeemmmdbdjdaaBvSel
set_option linter.unusedVariables false
namespace Go.Proofs.Ytofeemmmdbdjdaa.B
open Go.RowKit HK

def SelPost (w : World) (N n : Nat) (bb : Bool) (k : Int) (e : Ending) (w' : World) : Prop :=
  ∃ z, e = .returned (.int .i64 z) ∧ SelAt N n bb k z ∧ Below w.heap.size w w'
theorem Bv.alloc {w : World} {S E b n N : Nat} (h : Bv w S E b n N) (hE : E ≤ w.heap.size) (o : Obj) : Bv (w.alloc o) S E b n N :=
  h.agree (fun k _ h2 => Below.heap_alloc w o k (by omega))
theorem bel3 (w : World) (o1 o2 o3 : Obj) (q : Nat) : Below w.heap.size w ((((w.alloc o1).alloc o2).alloc o3).drewN q) :=
  bel_drewN ((((Below.refl _ _).alloc (Nat.le_refl _) _).alloc (by simp) _).alloc (by simp; omega) _) q

set_option maxHeartbeats 1000000 in
theorem bsel_any (w : World) (S E b n N : Nat) (h : Bv w S E b n N) (hE : E ≤ w.heap.size) (bb : Bool) (k : Int) (hk : (Lit.int .i64 k).wf = true) :
    Calls Try.prog 16 #[.pointer (some ⟨b, 0, none⟩), .bool bb, .int .i64 k] w (SelPost w N n bb k) := by
  have hn := h.1
  have hkr := rg_i64 k hk
  obtain ⟨W, hW⟩ : ∃ W, ((w.alloc (.cells #[.pointer (some ⟨b, 0, none⟩)] 23)).alloc (.cells #[.bool bb] 4)).alloc (.cells #[.int .i64 k] 3) = W := ⟨_, rfl⟩
  have hbv : Bv W S E b n N := by rw [← hW]; exact ((h.alloc hE _).alloc (by simp; omega) _).alloc (by simp; omega) _
  have hk1 : W.cell? ⟨w.heap.size, 0, none⟩ = some (.pointer (some ⟨b, 0, none⟩)) := by rw [← hW]; exact (((Row.new w _ _).alloc _).alloc _).cell 0
  have hk2 : W.cell? ⟨w.heap.size + 1, 0, none⟩ = some (.bool bb) := by rw [← hW]; exact ((Row.new2 w _ _ _).alloc _).cell 0
  have hk3 : W.cell? ⟨w.heap.size + 1 + 1, 0, none⟩ = some (.int .i64 k) := by rw [← hW]; exact (Row.new3 w _ _ _ _).cell 0
  have hc0 : W.cell? ⟨b, 0, none⟩ = some (.int .i64 n) := by
    obtain ⟨_, _, _, _, A1, c1, A2, c2, hr, _, _⟩ := hbv
    exact hr.cell 0
  have hrank : ∀ q, Calls Try.prog 13 #[.pointer (some ⟨b, 0, none⟩), .bool bb, .int .i64 (n : Int)] (W.drewN q) fun e w' => e = .returned (.int .i64 ((rk N bb n : Nat) : Int)) ∧ ∃ m, w' = (W.drewN q).drewN m := by
    intro q
    have := brank_any (W.drewN q) S E b n N (hbv.drewN q) bb ((n : Nat) : Int) (wf_i64 _ (by omega))
    rw [clamp_nat _ _ (Nat.le_refl _)] at this
    exact this
  have hrb := rk_le N bb n
  have hBel : ∀ q, Below w.heap.size w (W.drewN q) := by rw [← hW]; exact bel3 w _ _ _
  have hse := fun Q => search_b (W.drewN Q) n (.pointer (some ⟨w.heap.size, 0, none⟩)) (.pointer (some ⟨w.heap.size + 1, 0, none⟩)) (.pointer (some ⟨w.heap.size + 1 + 1, 0, none⟩)) (fun i => decide (k < (rk N bb (i + 1) : Nat))) (by omega)
    (fun i j hij hp => by have := rk_mono N bb (i + 1) (j + 1) (by omega); simp only [decide_eq_true_eq] at *; omega)
    (fun q i hi => (sel1_any ((W.drewN Q).drewN q) w.heap.size (w.heap.size + 1) (w.heap.size + 1 + 1) S E b n N i bb k ((hbv.drewN Q).drewN q) hi hk1 hk2 hk3).mono (by
      rintro e w' ⟨rfl, q', rfl⟩
      exact ⟨rfl, q + q', World.drewN_drewN _ _ _⟩))
  have HB := Lib.hid hBel; clear hBel
  have HR := Lib.hid hrank; clear hrank
  clear hbv
  have HSE := Lib.hid hse; clear hse
  have HWW := Lib.hid hW; clear hW
  go_enter Try.func16, Try.ntmps16
  go_wp2_with fail
  rw [HWW.out]
  refine (blen_any _ _ _ hc0).mono ?_
  rintro e w' ⟨rfl, rfl⟩
  by_cases h0 : k < 0
  · have hb0 : decide (k < 0) = true := by simpa using h0
    go_wp2
    go_quiet (fail)
    go_wp2
    go_ret
    exact ⟨-1, rfl, .inl ⟨rfl, .inl h0⟩, HB.out _⟩
  · have hb0 : decide (k < 0) = false := by simpa using h0
    by_cases h1 : (rk N bb n : Int) ≤ k
    · have hb1 : decide ((rk N bb n : Int) ≤ k) = true := by simpa using h1
      go_wp2
      go_quiet ((go_at_call 13; exact Calls.quiet_of (HR.out _)))
      go_wp2
      go_ret
      exact ⟨-1, rfl, .inl ⟨rfl, .inr h1⟩, HB.out _⟩
    · have hb1 : decide ((rk N bb n : Int) ≤ k) = false := by simpa using h1
      go_wp2
      go_quiet ((go_at_call 13; exact Calls.quiet_of (HR.out _)))
      go_wp2_with fail
      refine (HSE.out _).mono ?_
      rintro e w' ⟨r, rfl, hr, hlo, hhi, q, rfl⟩
      have hz : Hid (SelAt N n bb k (r : Int)) := Lib.hid (by
        have hrn : r < n := by
          rcases Nat.lt_or_ge r n with h | h
          · exact h
          · exfalso
            obtain rfl : r = n := by omega
            cases r with
            | zero => rw [rk_zero] at h1; omega
            | succ r => have := hlo r (by omega); simp only [decide_eq_false_iff_not] at this; omega
        refine .inr ⟨r, rfl, hrn, ?_⟩
        have h2 := hhi r (Nat.le_refl _) hrn
        simp only [decide_eq_true_eq] at h2
        have h3 := rk_step N bb r
        have h4 := Bool.toNat_le (N.testBit r == bb)
        have h5 : (rk N bb r : Int) ≤ k := by
          cases r with
          | zero => rw [rk_zero]; omega
          | succ r => have := hlo r (by omega); simp only [decide_eq_false_iff_not] at this; omega
        omega)
      clear hlo hhi
      go_wp2
      go_ret
      exact ⟨r, rfl, hz.out, HB.out _⟩
end Go.Proofs.Ytofeemmmdbdjdaa.B
