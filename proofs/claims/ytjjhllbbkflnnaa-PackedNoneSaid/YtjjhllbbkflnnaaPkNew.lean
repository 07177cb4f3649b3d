/- packed: New. -/
import Derived.Test.YtjjhllbbkflnnaaPkLen
import Derived.Deep.OwnRows
import Derived.RegionTactic
set_option linter.unusedVariables false
namespace Go.Proofs.Ytjjhllbbkflnnaa
open Go.RowKit HK

def u64v (v : Nat) : Value := .int .u64 (v : Int)
theorem infoU64 : (Try.prog.info? 27).map (fun i => (i.zero, i.size, i.bytes)) = some (some (.int .u64 0), 1, 8) := by kernel_rfl

theorem made_words (m : Nat) : madeCells #[Value.int .u64 0] m = wordsA 0 m := by
  apply wordsA_ext
  · exact size_madeCells _ _
  · intro k hk
    simp [madeCells, hk, Nat.mod_one, word]
theorem take_snoc_n (l : List Nat) (k : Nat) (v : Nat) (h : l[k]? = some v) : l.take (k + 1) = l.take k ++ [v] := by
  rw [List.take_add_one, h]; rfl
theorem at_u64 {l : List Nat} {k : Nat} {u : Value} (h : (l.map u64v)[k]? = some u) : ∃ v, l[k]? = some v ∧ u = .int .u64 (v : Int) := by
  rw [List.getElem?_map] at h
  obtain ⟨v, hv, rfl⟩ := Option.map_eq_some_iff.1 h
  exact ⟨v, hv, rfl⟩

set_option maxHeartbeats 1000000 in
theorem pnew_walk (w : World) (A : Option Addr) (n c : Nat) (l : List Nat) (hn : n ≤ 1048576) (hl : ∀ v ∈ l, v < 2 ^ 64) (hs : Sl w w.heap.size A n (l.map u64v)) :
    Calls Try.prog 11 #[.slice A n c] w fun e w' => ∃ b g, e = .returned (.tuple #[.pointer (some ⟨b, 0, none⟩), .int .i64 0]) ∧ PR w' b g n (widthL l) (packN (widthL l) l) ∧ w.heap.size ≤ b ∧ w.heap.size ≤ g ∧ Below w.heap.size w w' := by
  have hlen : Hid (l.length = n) := Lib.hid (by have := hs.1; simpa using this)
  have hnb : decide ((1048576 : Int) < (n : Int)) = false := by simp; omega
  have HL := Lib.hid hl; clear hl
  have HS := Lib.hid hs; clear hs
  go_enter Try.func11, Try.ntmps11
  go_wp2
  go_loop [4, 15] (fun a i => ∃ k : Nat, k ≤ n ∧ i = .int .i64 k ∧ a = .int .u64 (orL (l.take k) : Nat)) (fun _ i => n - (intOf i).toNat)
  case atStart => exact ⟨0, Nat.zero_le _, rfl, rfl⟩
  case round =>
    obtain ⟨k, hk, rfl, rfl⟩ := hrel
    by_cases hlt : k < n
    · obtain ⟨b, off, u, rfl, hb, hu, hc⟩ := HS.out.at_ hlt
      obtain ⟨v, hv, rfl⟩ := at_u64 hu
      have HU := Lib.hid hu; clear hu
      have HVV := Lib.hid hv; clear hv
      go_wp2
      go_round
      case rel =>
        refine ⟨k + 1, by omega, by go_num, ?_⟩
        have h1 : orL (l.take k) < 2 ^ 64 := by
          rw [← blen_le_iff, blen_orL, widthL_le_iff]
          exact fun v hv => HL.out v (List.mem_of_mem_take hv)
        have h2 : v < 2 ^ 64 := HL.out v (List.mem_of_getElem? HVV.out)
        rw [u64_or_nat _ _ h1 h2, take_snoc_n l k v HVV.out, orL_snoc]
      case measure => simp [intOf]; omega
    · obtain rfl : n = k := by omega
      have hor : Hid (orL (l.take n) < 2 ^ 64) := Lib.hid (by
        rw [← blen_le_iff, blen_orL, widthL_le_iff]
        exact fun v hv => HL.out v (List.mem_of_mem_take hv))
      go_wp2_with fail
      refine (len64_any _ _ hor.out).mono ?_
      rintro e w' ⟨rfl, rfl⟩
      obtain ⟨wd, hwd⟩ : ∃ wd, blen (orL (l.take n)) = wd := ⟨_, rfl⟩
      rw [hwd]
      have hwd' : Hid (wd = widthL l) := Lib.hid (by rw [← hwd, blen_orL, List.take_of_length_le (by rw [hlen.out]; exact Nat.le_refl _)])
      clear hwd
      have hw64 : wd ≤ 64 := by rw [hwd'.out]; exact widthL_le_64 l HL.out
      have hp : n * wd ≤ 67108864 := by
        have := Nat.mul_le_mul hn hw64
        omega
      have hpi : (n : Int) * (wd : Int) ≤ 67108864 := by rw [cast_prod]; omega
      have hpi0 : 0 ≤ (n : Int) * (wd : Int) := by rw [cast_prod]; omega
      have hmk := run_make_row' (P := Try.prog) 22 27 (.int .u64 0) 8 Try.underlying22 infoU64 rfl .i64 .i64 ((n * wd + 63) / 64) (by omega) (by omega)
      have ec : (((n * wd + 63) / 64 : Nat) : Int) = ((n : Int) * (wd : Int) + 63) / 64 := by rw [cast_prod]; omega
      rw [ec, made_words] at hmk
      clear ec
      go_wp2
      go_region
      go_wp2
      clear hmk
      go_loopw [46] (fun i wr => ∃ k : Nat, k ≤ n ∧ i = .int .i64 k ∧ PR wr w.heap.size (w.heap.size + 1) n wd (packN wd (l.take k)) ∧ Below w.heap.size w wr) (fun i _ => n - (intOf i).toNat)
      case atStart =>
        refine ⟨0, Nat.zero_le _, rfl, ⟨(Row.alloc (Row.new w _ _) _).drew, ?_⟩, (((Below.refl _ _).alloc (Nat.le_refl _) _).alloc (by simp) _).drew⟩
        exact (Row.new2 w _ _ _).drew
      case round =>
        obtain ⟨k, hk, rfl, hpr, hB⟩ := hrel
        have HPR := Lib.hid hpr; clear hpr
        by_cases hlt : k < n
        · obtain ⟨b, off, u, rfl, hb, hu, hc⟩ := (HS.out.below hB).at_ hlt
          obtain ⟨v, hv, rfl⟩ := at_u64 hu
          have HU := Lib.hid hu; clear hu
          have HVV := Lib.hid hv; clear hv
          have hcall := pset_any wr w.heap.size (w.heap.size + 1) n wd k (packN wd (l.take k)) v hn hw64 hlt (by
            have h1 := packN_lt wd (l.take k) (fun x hx => by rw [hwd'.out]; exact lt_widthL l x (List.mem_of_mem_take hx))
            rw [List.length_take, hlen.out, Nat.min_eq_left (by omega), Nat.mul_comm] at h1
            exact h1) (by rw [hwd'.out]; exact lt_widthL l v (List.mem_of_getElem? HVV.out)) HPR.out
          have HC := Lib.hid hcall; clear hcall
          go_wp2_with (go_at_call 26; refine HC.out.mono ?_; rintro e w' ⟨rfl, hpr', hgr'⟩)
          go_roundw
          case rel =>
            refine ⟨k + 1, by omega, by go_num, ?_, hB.grown hgr' hB.size (fun q e => by cases e; omega)⟩
            rw [take_snoc_n l k v HVV.out, packN_append, List.length_take, hlen.out, Nat.min_eq_left (by omega), Nat.mul_comm wd k]
            exact hpr'
          case measure => simp [intOf]; omega
        · obtain rfl : n = k := by omega
          go_wp2
          go_ret2
          refine ⟨w.heap.size, w.heap.size + 1, rfl, ?_, Nat.le_refl _, by omega, hB⟩
          have := HPR.out
          rw [List.take_of_length_le (by rw [hlen.out]; exact Nat.le_refl _), hwd'.out] at this
          exact this
end Go.Proofs.Ytjjhllbbkflnnaa
