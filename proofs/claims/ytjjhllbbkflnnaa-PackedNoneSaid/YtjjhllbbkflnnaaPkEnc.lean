/- packed: Encode; SameBytes. -/
import Derived.Test.YtjjhllbbkflnnaaPkNew
set_option linter.unusedVariables false
namespace Go.Proofs.Ytjjhllbbkflnnaa
open Go.RowKit HK

def u8v (v : Nat) : Value := .int .u8 (v : Int)
theorem infoU8 : (Try.prog.info? 5).map (fun i => (i.zero, i.size, i.bytes)) = some (some (.int .u8 0), 1, 1) := by kernel_rfl
theorem at_u8 {l : List Nat} {k : Nat} {u : Value} (h : (l.map u8v)[k]? = some u) : ∃ v, l[k]? = some v ∧ u = .int .u8 (v : Int) := by
  rw [List.getElem?_map] at h
  obtain ⟨v, hv, rfl⟩ := Option.map_eq_some_iff.1 h
  exact ⟨v, hv, rfl⟩

set_option maxHeartbeats 1000000 in
theorem penc_walk (w : World) (b g n wd N : Nat) (hn : n ≤ 1048576) (h64 : wd ≤ 64) (h : PR w b g n wd N) :
    Calls Try.prog 17 #[.pointer (some ⟨b, 0, none⟩)] w fun e w' => ∃ v, e = .returned v ∧ w'.ownsRow w.heap.size 5 1 v (5 + (n * wd + 7) / 8) ((hdr n wd ++ bytesN N ((n * wd + 7) / 8)).map u8v) ∧ Below w.heap.size w w' := by
  have hc0 : w.cell? ⟨b, 0, none⟩ = some (.int .i64 n) := h.1.cell 0
  have hc1 : w.cell? ⟨b, 1, none⟩ = some (.int .i64 wd) := h.1.cell 1
  have hc2 : w.cell? ⟨b, 2, none⟩ = some (.slice (some ⟨g, 0, none⟩) ((n * wd + 63) / 64) ((n * wd + 63) / 64)) := h.1.cell 2
  have H := Lib.hid h; clear h
  have hp : n * wd ≤ 67108864 := by
    have := Nat.mul_le_mul hn h64
    omega
  have hpi : (n : Int) * (wd : Int) ≤ 67108864 := by rw [cast_prod]; omega
  have hpi0 : 0 ≤ (n : Int) * (wd : Int) := by rw [cast_prod]; omega
  have hb : b < w.heap.size := H.out.1.lt
  have hg : g < w.heap.size := H.out.2.lt
  have hk0 : ∀ o, (w.alloc o).cell? ⟨b, 0, none⟩ = some (.int .i64 n) := fun o => (World.cell?_alloc_lt w o ⟨b, 0, none⟩ hb).trans hc0
  have hk1 : ∀ o, (w.alloc o).cell? ⟨b, 1, none⟩ = some (.int .i64 wd) := fun o => (World.cell?_alloc_lt w o ⟨b, 1, none⟩ hb).trans hc1
  obtain ⟨i0, hi, hz0, hz1, hz2⟩ := info_parts infoU8
  go_enter Try.func17, Try.ntmps17
  go_wp2
  go_region
  go_wp2
  go_quiet (fail)
  go_wp2
  clear hk0 hk1
  go_loopw [3, 47] (fun o i wr => ∃ k : Nat, k ≤ (n * wd + 7) / 8 ∧ i = .int .i64 k ∧ wr.ownsRow w.heap.size 5 1 o (5 + k) ((hdr n wd ++ bytesN N k).map u8v) ∧ Below w.heap.size w wr) (fun _ i _ => (n * wd + 7) / 8 - (intOf i).toNat)
  case atStart =>
    refine ⟨0, Nat.zero_le _, rfl, ?_, bel_drewN ((Below.refl _ _).alloc (Nat.le_refl _) _).drew _⟩
    have h0 := World.ownsRow_lit (e := 5) (size := 1) (base := w.heap.size) w #[Value.int .u8 ((n : Int) % 256), .int .u8 ((n : Int) / 256 % 256), .int .u8 ((n : Int) / 65536), .int .u8 ((n : Int) / 16777216), .int .u8 (wd : Int)] 5 (Nat.le_refl _) (by decide) rfl
    have e : (hdr n wd ++ bytesN N 0).map u8v = [Value.int .u8 ((n : Int) % 256), .int .u8 ((n : Int) / 256 % 256), .int .u8 ((n : Int) / 65536), .int .u8 ((n : Int) / 16777216), .int .u8 (wd : Int)] := by
      simp only [hdr, bytesN, List.range_zero, List.map_nil, List.append_nil, List.map_cons, u8v, List.cons.injEq, Value.int.injEq, true_and, and_true]
      omega
    rw [e]
    exact h0
  case round =>
    obtain ⟨k, hk, rfl, hown, hB⟩ := hrel
    by_cases hlt : k < (n * wd + 7) / 8
    · have hd0 := (hB.cell (p := ⟨b, 2, none⟩) hb).trans hc2
      have hd1 : wr.cell? ⟨g, k / 8, none⟩ = some (.int .u64 (word N (k / 8))) := (hB.cell (p := ⟨g, k / 8, none⟩) hg).trans ((H.out.2.cell (k / 8)).trans (wordsA_at N _ _ (by omega)))
      have HVB : Hid (((word N (k / 8) : Nat) : Int) / 2 ^ (k % 8 * 8) % 256 = ((N / 2 ^ (8 * k) % 256 : Nat) : Int)) := Lib.hid (by
        rw [div_pow_cast, ← word_byte N k]; simp)
      go_wp2_with (at_builtin; refine wpList_append_own _ rfl _ _ 35 rfl w.heap.size 5 i0 (.int .u8 0) 1 1 Try.underlying35 hi hz0 hz1 hz2 rfl (by decide) _ _ _ rfl (hown.alloc _) ⟨wr.heap.size, 0, none⟩ 1 1 [_] rfl rfl (cell_one_new _ _ _) one_oneCell (by unfold maxLen; omega) (by omega) (by have := hB.size; simp; omega) ?_; intro v' w1 hown1 hgrow1 _)
      have hB1 := bel_app hB (Nat.le_refl _) hown hgrow1
      have HO := Lib.hid hown1; clear hown1 hgrow1 hown hd0 hd1
      go_wp2
      go_roundw
      case rel =>
        refine ⟨k + 1, by omega, by go_num, ?_, hB1⟩
        have h1 := HO.out
        rw [HVB.out] at h1
        rw [bytesN_succ, ← List.append_assoc, List.map_append]
        exact h1
      case measure => simp [intOf]; omega
    · obtain rfl : k = (n * wd + 7) / 8 := by omega
      go_wp2
      go_ret
      exact ⟨_, rfl, hown, hB⟩
end Go.Proofs.Ytjjhllbbkflnnaa
