/- The walk of PackedLeast. -/
import Derived.Test.YtjjhllbbkflnnaaPkRef
import Derived.Test.YtjjhllbbkflnnaaMem2
set_option linter.unusedVariables false
namespace Go.Proofs.Ytjjhllbbkflnnaa
open Go.RowKit HK

def needF (wd : Nat) (l : List Nat) : Bool := decide (wd = 0) || l.any (fun v => decide (2 ^ (wd - 1) ≤ v))
theorem needF_snoc (wd : Nat) (l : List Nat) (v : Nat) : needF wd (l ++ [v]) = (needF wd l || decide (2 ^ (wd - 1) ≤ v)) := by
  simp [needF, Bool.or_assoc]
theorem needF_all (l : List Nat) : needF (widthL l) l = true := by
  unfold needF
  by_cases h : widthL l = 0
  · simp [h]
  · obtain ⟨v, hv, h1⟩ := widthL_top l h
    simp only [Bool.or_eq_true, decide_eq_true_eq, List.any_eq_true]
    exact .inr ⟨v, hv, by simpa using h1⟩
theorem shr_zero (v q : Nat) (h : v < 2 ^ q) : (((v : Int) / 2 ^ q) != 0) = false := by rw [div_pow_cast, Nat.div_eq_of_lt h]; rfl
theorem shr_pos (v q : Nat) (h : 2 ^ q ≤ v) : (((v : Int) / 2 ^ q) != 0) = true := by
  rw [div_pow_cast]
  have : 0 < v / 2 ^ q := Nat.div_pos h (Nat.two_pow_pos q)
  rw [bne_iff_ne]; omega

set_option maxHeartbeats 2000000 in
theorem least_walk (w : World) (A : Option Addr) (n c : Nat) (l : List Nat) (hn : n ≤ 3000) (hl : ∀ v ∈ l, v < 2 ^ 64) (hs : Sl w w.heap.size A n (l.map u64v)) :
    Calls Try.prog 5 #[.slice A n c] w fun e w' => e = .returned (.bool true) ∧ Below w.heap.size w w' := by
  have hnb : decide ((3000 : Int) < (n : Int)) = false := by simp; omega
  have hlen : Hid (l.length = n) := Lib.hid (by have := hs.1; simpa using this)
  have HL := Lib.hid hl; clear hl
  have HS := Lib.hid hs; clear hs
  go_enter Try.func5, Try.ntmps5
  go_wp2_with fail
  refine (pnew_walk w A n c l (by omega) HL.out HS.out).mono ?_
  rintro e w2 ⟨b, g, rfl, hpr, hb, hg, hB2⟩
  have h64 : widthL l ≤ 64 := widthL_le_64 l HL.out
  have hc1 : w2.cell? ⟨b, 1, none⟩ = some (.int .i64 (widthL l)) := hpr.1.cell 1
  have HP := Lib.hid hpr; clear hpr hb hg
  go_wp2_with fail
  refine (pwidth_any _ _ _ hc1).mono ?_
  rintro e w' ⟨rfl, rfl⟩
  obtain ⟨wd, hwd⟩ : ∃ wd, widthL l = wd := ⟨_, rfl⟩
  rw [hwd] at h64 hc1 ⊢
  have HW := Lib.hid hwd; clear hwd
  have hlt0 : decide ((wd : Int) < 0) = false := by simp
  have hgt : decide ((64 : Int) < (wd : Int)) = false := by simp; omega
  have hfin : needF wd l = true := by rw [← HW.out]; exact needF_all l
  have HF := Lib.hid hfin; clear hfin
  have hv : ∀ v ∈ l, v < 2 ^ wd := by rw [← HW.out]; exact lt_widthL l
  have HV := Lib.hid hv; clear hv
  have hst : ∀ x : Bool, x = ((wd : Int) == 0) → needF wd [] = x := by
    rintro x rfl
    by_cases h0 : wd = 0
    · subst h0; rfl
    · have : ((wd : Int) == 0) = false := by simp; omega
      rw [this]; simp [needF, h0]
  have HST := Lib.hid hst; clear hst
  go_wp2_with fail
  go_loop [6, 7] (fun nd ix => ∃ k : Nat, k ≤ n ∧ ix = .int .i64 k ∧ nd = .bool (needF wd (l.take k))) (fun _ ix => n - (intOf ix).toNat)
  case atStart => exact ⟨0, Nat.zero_le _, rfl, by rw [List.take_zero, HST.out _ rfl]⟩
  case round =>
    obtain ⟨k, hk, rfl, rfl⟩ := hrel
    by_cases hlt : k < n
    · obtain ⟨b1, off, u, rfl, hb1, hu, hcu⟩ := HS.out.at_ hlt
      obtain ⟨v, hv, rfl⟩ := at_u64 hu
      have hcv : w2.cell? ⟨b1, off + k, none⟩ = some (.int .u64 (v : Int)) := (hB2.cell (p := ⟨b1, off + k, none⟩) hb1).trans hcu
      have HU := Lib.hid hu; clear hu hcu
      have HVV := Lib.hid hv; clear hv
      have hz := shr_zero v wd (HV.out v (List.mem_of_getElem? HVV.out))
      have hsn : needF wd (l.take (k + 1)) = (needF wd (l.take k) || decide (2 ^ (wd - 1) ≤ v)) := by rw [take_snoc_n l k v HVV.out, needF_snoc]
      have HSN := Lib.hid hsn; clear hsn
      by_cases hw64 : wd < 64
      · have hd64 : decide ((wd : Int) < 64) = true := by simp; omega
        cases hnd : needF wd (l.take k) with
        | true =>
          have HND := Lib.hid hnd; clear hnd
          go_wp2
          go_round
          case rel => exact ⟨k + 1, by omega, by go_num, by rw [HSN.out, HND.out]; rfl⟩
          case measure => simp [intOf]; omega
        | false =>
          have h1 : 1 ≤ wd := by
            rcases Nat.eq_zero_or_pos wd with h | h
            · rw [h] at hnd; simp [needF] at hnd
            · exact h
          have HND := Lib.hid hnd; clear hnd
          by_cases hp : 2 ^ (wd - 1) ≤ v
          · have hq := shr_pos v (wd - 1) hp
            have HP1 := Lib.hid hp; clear hp
            go_wp2
            go_round
            case rel => exact ⟨k + 1, by omega, by go_num, by rw [HSN.out, HND.out, decide_eq_true HP1.out]; rfl⟩
            case measure => simp [intOf]; omega
          · have hq := shr_zero v (wd - 1) (by omega)
            have HP1 := Lib.hid hp; clear hp
            go_wp2
            go_round
            case rel => exact ⟨k + 1, by omega, by go_num, by rw [HSN.out, HND.out, decide_eq_false HP1.out]; rfl⟩
            case measure => simp [intOf]; omega
      · have hd64 : decide ((wd : Int) < 64) = false := by simp; omega
        have h1 : 1 ≤ wd := by omega
        cases hnd : needF wd (l.take k) with
        | true =>
          have HND := Lib.hid hnd; clear hnd
          go_wp2
          go_round
          case rel => exact ⟨k + 1, by omega, by go_num, by rw [HSN.out, HND.out]; rfl⟩
          case measure => simp [intOf]; omega
        | false =>
          have HND := Lib.hid hnd; clear hnd
          by_cases hp : 2 ^ (wd - 1) ≤ v
          · have hq := shr_pos v (wd - 1) hp
            have HP1 := Lib.hid hp; clear hp
            go_wp2
            go_round
            case rel => exact ⟨k + 1, by omega, by go_num, by rw [HSN.out, HND.out, decide_eq_true HP1.out]; rfl⟩
            case measure => simp [intOf]; omega
          · have hq := shr_zero v (wd - 1) (by omega)
            have HP1 := Lib.hid hp; clear hp
            go_wp2
            go_round
            case rel => exact ⟨k + 1, by omega, by go_num, by rw [HSN.out, HND.out, decide_eq_false HP1.out]; rfl⟩
            case measure => simp [intOf]; omega
    · obtain rfl : n = k := by omega
      have hnd : needF wd (l.take n) = true := by rw [List.take_of_length_le (by rw [hlen.out]; exact Nat.le_refl _)]; exact HF.out
      rw [hnd]
      clear hnd
      go_wp2_with fail
      refine (works_true w2).mono ?_
      rintro e w5 ⟨rfl, hB5⟩
      go_wp2
      go_ret
      exact ⟨rfl, hB2.trans (hB5.mono hB2.size)⟩
set_option maxHeartbeats 1000000 in
theorem least_long (w : World) (A : Option Addr) (n c : Nat) (hn : 3000 < n) :
    Calls Try.prog 5 #[.slice A n c] w fun e w' => e = .returned (.bool true) ∧ Below w.heap.size w w' := by
  have hnb : decide ((3000 : Int) < (n : Int)) = true := by simp; omega
  go_enter Try.func5, Try.ntmps5
  go_wp2
  go_ret
  exact ⟨rfl, Below.refl _ _⟩
theorem least_all (a0 : Option Addr) (len0 cap0 : Nat) (z0 : List Int) (w : World) (w0 : ArgRow .u64 w a0 len0 cap0 z0) :
    Calls Try.prog 5 #[.slice a0 len0 cap0] w fun e w' => e = .returned (.bool true) ∧ Below w.heap.size w w' := by
  by_cases h : len0 ≤ 3000
  · obtain ⟨l, hl, hc, hcm, hw, hs⟩ := arg_sl w0 nn_u64
    exact least_walk w a0 len0 cap0 l h (fun v hv => lt_u64 v (hw v hv)) hs
  · exact least_long w a0 len0 cap0 (by omega)
end Go.Proofs.Ytjjhllbbkflnnaa
