/- bitvec: New. -/
import Derived.Test.YtofeemmmdbdjdaaBvCount
set_option linter.unusedVariables false
namespace Go.Proofs.Ytofeemmmdbdjdaa.B
open Go.RowKit HK

theorem at_bool {l : List Bool} {k : Nat} {u : Value} (h : (l.map Value.bool)[k]? = some u) : ∃ v, l[k]? = some v ∧ u = .bool v := by
  rw [List.getElem?_map] at h
  obtain ⟨v, hv, rfl⟩ := Option.map_eq_some_iff.1 h
  exact ⟨v, hv, rfl⟩
theorem take_snoc_b {α : Type} (l : List α) (k : Nat) (v : α) (h : l[k]? = some v) : l.take (k + 1) = l.take k ++ [v] := by
  rw [List.take_add_one, h]; rfl
theorem bits_take_lt (l : List Bool) (k : Nat) : bitsN (l.take k) < 2 ^ k :=
  Nat.lt_of_lt_of_le (bitsN_lt _) (Nat.pow_le_pow_right (by decide) (by simp; omega))
theorem words_put (N n m k : Nat) (hN : N < 2 ^ k) (hk : k < 64 * m) : (wordsA N m).setIfInBounds (k / 64) (.int .u64 ((word N (k / 64) ||| 1 * 2 ^ (k % 64) % 2 ^ 64 : Nat) : Int)) = wordsA (N + 2 ^ k * 1) m := by
  apply wordsA_ext
  · simp [wordsA_size]
  · intro j hj
    rw [Array.getElem?_setIfInBounds]
    by_cases hkk : k / 64 = j
    · subst hkk; simp only [wordsA_size, hj, if_true, word_set_at N 1 k hN]
    · rw [if_neg hkk, wordsA_at N _ _ hj, word_set_other N 1 k 1 j hN (by decide) (by decide) (fun e => hkk e.symm) (fun e => by omega)]
theorem or_bit (x s : Nat) (hx : x < 2 ^ 64) : bits .or .u64 (x : Int) (IntKind.u64.wrap ((1 : Int) * 2 ^ s)) = ((x ||| 1 * 2 ^ s % 2 ^ 64 : Nat) : Int) := by
  have e : IntKind.u64.wrap ((1 : Int) * 2 ^ s) = ((1 * 2 ^ s % 2 ^ 64 : Nat) : Int) := by rw [IntKind.wrap_u64]; simp
  rw [e, u64_or_nat _ _ hx (Nat.mod_lt _ (by decide))]
theorem or_bit' (x s : Nat) (hx : x < 2 ^ 64) : bits .or .u64 (x : Int) (IntKind.u64.wrap ((2 : Int) ^ s)) = ((x ||| 1 * 2 ^ s % 2 ^ 64 : Nat) : Int) := by
  rw [← or_bit x s hx, Int.one_mul]

/-- Half way through New. -/
def Half (w wr : World) (n k : Nat) (l : List Bool) : Prop :=
  Row wr w.heap.size 48 (wordsA (bitsN (l.take k)) ((n + 63) / 64)) ∧ Row wr (w.heap.size + 1) 47 #[.int .i64 n, .slice (some ⟨w.heap.size, 0, none⟩) ((n + 63) / 64) ((n + 63) / 64), .slice none 0 0] ∧ Below w.heap.size w wr

set_option maxHeartbeats 1000000 in
theorem bnew_any (w : World) (A : Option Addr) (n c : Nat) (l : List Bool) (hn : n ≤ 1048576) (hs : Sl w w.heap.size A n (l.map Value.bool)) :
    Calls Try.prog 12 #[.slice A n c] w fun e w' => ∃ b, e = .returned (.tuple #[.pointer (some ⟨b, 0, none⟩), .int .i64 0]) ∧ Bv w' w.heap.size w'.heap.size b n (bitsN l) ∧ Below w.heap.size w w' := by
  have hlen : Hid (l.length = n) := Lib.hid (by have := hs.1; simpa using this)
  have hnb : decide ((1048576 : Int) < (n : Int)) = false := by simp; omega
  have HS := Lib.hid hs; clear hs
  have hmk := run_make_row' (P := Try.prog) 44 48 (.int .u64 0) 8 Try.underlying44 infoU64 rfl .i64 .i64 ((n + 63) / 64) (by omega) (by omega)
  have ec : (((n + 63) / 64 : Nat) : Int) = ((n : Int) + 63) / 64 := by omega
  rw [ec, made_words] at hmk
  clear ec
  go_enter Try.func12, Try.ntmps12
  go_wp2
  clear hmk
  go_loopw [21] (fun i wr => ∃ k : Nat, k ≤ n ∧ i = .int .i64 k ∧ Half w wr n k l) (fun i _ => n - (intOf i).toNat)
  case atStart => exact ⟨0, Nat.zero_le _, rfl, Row.alloc (Row.new w _ _) _, Row.new2 w _ _ _, ((Below.refl _ _).alloc (Nat.le_refl _) _).alloc (by simp) _⟩
  case round =>
    obtain ⟨k, hk, rfl, hH⟩ := hrel
    by_cases hlt : k < n
    · obtain ⟨b, off, u, rfl, hb, hu, hc⟩ := (HS.out.below hH.2.2).at_ hlt
      obtain ⟨v, hv, rfl⟩ := at_bool hu
      have HVV := Lib.hid hv; clear hv hu
      have htl : Hid ((l.take k).length = k) := Lib.hid (by rw [List.length_take, hlen.out]; omega)
      cases v with
      | false =>
        have HH := Lib.hid hH; clear hH
        go_wp2
        go_roundw
        case rel =>
          refine ⟨k + 1, by omega, by go_num, ?_⟩
          have h := HH.out
          unfold Half at h ⊢
          rw [take_snoc_b l k _ HVV.out, bitsN_snoc, htl.out]
          simpa using h
        case measure => simp [intOf]; omega
      | true =>
        have hc1 : wr.cell? ⟨w.heap.size + 1, 1, none⟩ = some (.slice (some ⟨w.heap.size, 0, none⟩) ((n + 63) / 64) ((n + 63) / 64)) := hH.2.1.cell 1
        have hx : wr.cell? ⟨w.heap.size, k / 64, none⟩ = some (.int .u64 (word (bitsN (l.take k)) (k / 64))) := (hH.1.cell (k / 64)).trans (wordsA_at _ _ _ (by omega))
        have hf : wr.frozen? ⟨w.heap.size, k / 64, none⟩ = false := hH.1.frozen _
        have HH := Lib.hid hH; clear hH
        have HV := Lib.hid (or_bit' (word (bitsN (l.take k)) (k / 64)) (k % 64) (word_lt _ _))
        have HN := Lib.hid (bits_take_lt l k)
        obtain ⟨x, hxx⟩ : ∃ x, word (bitsN (l.take k)) (k / 64) = x := ⟨_, rfl⟩
        rw [hxx] at hx HV
        have HX := Lib.hid hxx; clear hxx
        go_wp2
        go_region
        go_wp2
        go_roundw
        case rel =>
          refine ⟨k + 1, by omega, by go_num, ?_⟩
          have h := HH.out
          rw [HV.out, ← HX.out]
          refine ⟨?_, h.2.1.far (by show ¬ w.heap.size + 1 = w.heap.size; omega) _, bel_drewN (h.2.2.setCell (Nat.le_refl _) _) _⟩
          have h1 := h.1.put (k / 64) (.int .u64 ((word (bitsN (l.take k)) (k / 64) ||| 1 * 2 ^ (k % 64) % 2 ^ 64 : Nat) : Int))
          rw [words_put _ n _ _ HN.out (by omega)] at h1
          rw [take_snoc_b l k _ HVV.out, bitsN_snoc, htl.out]
          exact h1
        case measure => simp [intOf]; omega
    · obtain rfl : k = n := by omega
      obtain ⟨h1, h2, hB⟩ := hH
      rw [List.take_of_length_le (by rw [hlen.out]; exact Nat.le_refl _)] at h1
      have hcall := bcount_any wr (w.heap.size + 1) k ((k + 63) / 64) ((k + 63) / 64) (some ⟨w.heap.size, 0, none⟩) (bitsN l) (by omega) h2 (by
        refine ⟨wordsL_len _ _, fun _ => ⟨w.heap.size, 0, rfl, h1.lt, by omega, fun j u hu => ?_⟩⟩
        rw [Nat.zero_add, h1.cell]
        simpa [wordsA] using hu)
      have HC := Lib.hid hcall; clear hcall
      have H1 := Lib.hid h1; clear h1
      have H2 := Lib.hid h2; clear h2
      go_wp2_with fail
      refine HC.out.mono ?_
      rintro e w' ⟨rfl, hP⟩
      have HP := Lib.hid hP; clear hP
      go_wp2
      go_ret2
      obtain ⟨A2, c2, hrow, hown, hgr⟩ := HP.out
      have hsz := hB.size
      refine ⟨w.heap.size + 1, rfl, ⟨hn, ?_, by omega, hrow.lt, _, _, A2, c2, hrow, ?_, (SlR.of_own hown).mono hsz (Nat.le_refl _)⟩, hB.grown hgr hsz (fun q e => by cases e; omega)⟩
      · have := bitsN_lt l
        rwa [hlen.out] at this
      · have hr := H1.out.grown hgr (fun e => by injection e with e; omega)
        refine (SlR.of_row hr _ (by simp [wordsA]) _ (wordsA_size _ _)).mono (Nat.le_refl _) hr.lt
end Go.Proofs.Ytofeemmmdbdjdaa.B
