/- bitvec: Decode. -/
import Derived.Test.YtofeemmmdbdjdaaBvDec
import Derived.Deep.AppendLies
import Derived.Deep.RegionLaw
import Derived.Deep.RegionHeld3
set_option linter.unusedVariables false
namespace Go.Proofs.Ytofeemmmdbdjdaa.B
open Go.RowKit HK

theorem bequal_any (w : World) (A A' : Option Addr) (n c n' c' B : Nat) (la lb : List Nat) (h1 : ∀ v ∈ la, v < 256) (h2 : ∀ v ∈ lb, v < 256) (ha : Sl w B A n (la.map u8v)) (hb : Sl w B A' n' (lb.map u8v)) :
    Calls Try.prog 33 #[.slice A n c, .slice A' n' c'] w fun e w' => e = .returned (.bool (decide (la = lb))) ∧ w = w' := by
  have e1 := conv_sl (P := Try.prog) 36 5 9 Try.underlying36 Try.underlying5 Try.underlying9 ha c
  have e2 := conv_sl (P := Try.prog) 36 5 9 Try.underlying36 Try.underlying5 Try.underlying9 hb c'
  have HE := Lib.hid (bs_beq la lb h1 h2)
  clear ha hb h1 h2
  go_enter Try.func33, Try.ntmps33
  go_wp2
  go_ret
  refine ⟨?_, rfl⟩
  rw [← HE.out]
  rfl

theorem Sl.sub {w : World} {B b off n : Nat} {xs : List Value} (h : Sl w B (some ⟨b, off, none⟩) n xs) (lo m : Nat) (hm : lo + m ≤ n) : Sl w B (some ⟨b, off + lo, none⟩) m ((xs.drop lo).take m) := by
  have hl := h.1
  refine ⟨by simp; omega, fun h0 => ?_⟩
  obtain ⟨b', off', e, hb, hc⟩ := h.2 (by omega)
  injection e with e
  injection e with e1 e2
  subst e1 e2
  refine ⟨b, off + lo, rfl, hb, fun j u hu => ?_⟩
  have hj : j < m := by
    rcases Nat.lt_or_ge j m with h1 | h1
    · exact h1
    · rw [List.getElem?_eq_none (by simp; omega)] at hu; cases hu
  rw [List.getElem?_take_of_lt hj, List.getElem?_drop] at hu
  have := hc _ _ hu
  rwa [← Nat.add_assoc] at this
theorem Sl.subU8 {w : World} {B b off n : Nat} {l : List Nat} (h : Sl w B (some ⟨b, off, none⟩) n (l.map u8v)) (lo m : Nat) (hm : lo + m ≤ n) : Sl w B (some ⟨b, off + lo, none⟩) m (((l.drop lo).take m).map u8v) := by
  have := Sl.sub h lo m hm
  rwa [← List.map_drop, ← List.map_take] at this

def BDecPost (w : World) (bl : List Nat) (e : Ending) (w' : World) : Prop :=
  Below w.heap.size w w' ∧ ((isCode bl ∧ ∃ b, e = .returned (.tuple #[.pointer (some ⟨b, 0, none⟩), .int .i64 0]) ∧ Bv w' w.heap.size w'.heap.size b (num4b bl) (bitsb bl)) ∨ (¬ isCode bl ∧ e = .returned (.tuple #[.pointer none, .int .i64 5])))

set_option maxHeartbeats 1000000 in
theorem bdec_short (w : World) (A : Option Addr) (n c : Nat) (bl : List Nat) (hl : bl.length = n) (hn : n < 4) :
    Calls Try.prog 25 #[.slice A n c] w (BDecPost w bl) := by
  have hnb : decide ((n : Int) < 4) = true := by simp; omega
  have hno : Hid (¬ isCode bl) := Lib.hid (fun h => by have := isCode_len h; omega)
  clear hl
  go_enter Try.func25, Try.ntmps25
  go_wp2
  go_ret2
  exact ⟨Below.refl _ _, .inr ⟨hno.out, rfl⟩⟩

set_option maxRecDepth 100000 in
set_option maxHeartbeats 1000000 in
theorem bdec_bad1 (w : World) (b off n c : Nat) (bl : List Nat) (hbl : ∀ v ∈ bl, v < 256) (hs : Sl w w.heap.size (some ⟨b, off, none⟩) n (bl.map u8v)) (hn : 4 ≤ n) (hnc : n ≤ c) (hcm : c ≤ 9223372036854775807) (hbad : 1048576 < num4b bl) :
    Calls Try.prog 25 #[.slice (some ⟨b, off, none⟩) n c] w (BDecPost w bl) := by
  have hnb : decide ((n : Int) < 4) = false := by simp; omega
  have hno : Hid (¬ isCode bl) := Lib.hid (fun h => by have := h.1; omega)
  have hcall := bnum_any w w.heap.size (some ⟨b, off, none⟩) 4 c (bl.take 4) (by omega) (fun v hv => hbl v (List.mem_of_mem_take hv)) (by have := Sl.subU8 hs 0 4 (by omega); simpa using this)
  obtain ⟨N4, hN4⟩ : ∃ N4, packN 8 (bl.take 4) = N4 := ⟨_, rfl⟩
  unfold num4b at hbad
  rw [hN4] at hcall hbad
  have HC := Lib.hid hcall
  have hgt : decide ((1048576 : Int) < (N4 : Int)) = true := by simp; omega
  have hn4 : (4 : Int) ≤ (n : Int) := by omega
  have hc4 : (4 : Int) ≤ (c : Int) := by omega
  clear hcall hbl hs hN4 hbad
  go_enter Try.func25, Try.ntmps25
  go_wp2_with fail
  refine HC.out.mono ?_
  rintro e w' ⟨rfl, rfl⟩
  go_wp2
  go_ret2
  exact ⟨Below.refl _ _, .inr ⟨hno.out, rfl⟩⟩

set_option maxRecDepth 100000 in
set_option maxHeartbeats 1000000 in
theorem bdec_bad2 (w : World) (b off n c : Nat) (bl : List Nat) (hbl : ∀ v ∈ bl, v < 256) (hs : Sl w w.heap.size (some ⟨b, off, none⟩) n (bl.map u8v)) (hn : 4 ≤ n) (hnc : n ≤ c) (hcm : c ≤ 9223372036854775807) (hok : num4b bl ≤ 1048576) (hbad : n < 4 + 8 * ((num4b bl + 63) / 64)) :
    Calls Try.prog 25 #[.slice (some ⟨b, off, none⟩) n c] w (BDecPost w bl) := by
  have hnb : decide ((n : Int) < 4) = false := by simp; omega
  have hno : Hid (¬ isCode bl) := Lib.hid (fun h => by have := isCode_len h; have := hs.1; simp at this; omega)
  have hcall := bnum_any w w.heap.size (some ⟨b, off, none⟩) 4 c (bl.take 4) (by omega) (fun v hv => hbl v (List.mem_of_mem_take hv)) (by have := Sl.subU8 hs 0 4 (by omega); simpa using this)
  obtain ⟨N4, hN4⟩ : ∃ N4, packN 8 (bl.take 4) = N4 := ⟨_, rfl⟩
  unfold num4b at hbad hok
  rw [hN4] at hcall hbad hok
  have HC := Lib.hid hcall
  have hgt : decide ((1048576 : Int) < (N4 : Int)) = false := by simp; omega
  have hwr : IntKind.i64.wrap (N4 : Int) = (N4 : Int) := IntWalk.i64_in _ (by omega)
  have hn4 : (4 : Int) ≤ (n : Int) := by omega
  have hc4 : (4 : Int) ≤ (c : Int) := by omega
  obtain ⟨M, hM⟩ : ∃ M : Nat, ((N4 : Int) + 63) / 64 = (M : Int) := ⟨(N4 + 63) / 64, by omega⟩
  have hMb : M ≤ 16384 := by omega
  have hlt : decide ((n : Int) < 4 + 8 * (M : Int)) = true := by simp; omega
  clear hcall hbl hs hN4 hbad
  go_enter Try.func25, Try.ntmps25
  go_wp2_with fail
  refine HC.out.mono ?_
  rintro e w' ⟨rfl, rfl⟩
  go_wp2_with fail
  refine HC.out.mono ?_
  rintro e w' ⟨rfl, rfl⟩
  go_wp2
  go_ret2
  exact ⟨(Below.refl _ _).alloc (Nat.le_refl _) _, .inr ⟨hno.out, rfl⟩⟩
end Go.Proofs.Ytofeemmmdbdjdaa.B
