/- packed: Decode; bytes.Equal. -/
import Derived.Test.YtpnkjfjkeoleaaaGPkB
import Derived.Test.YtpnkjfjkeoleaaaGMem
set_option linter.unusedVariables false
set_option maxRecDepth 100000
namespace Go.Proofs.Ytpnkjfjkeoleaaa
open Go.RowKit HK

theorem bequal_any (w : World) (A A' : Option Addr) (n c n' c' B : Nat) (la lb : List Nat) (h1 : ∀ v ∈ la, v < 256) (h2 : ∀ v ∈ lb, v < 256) (ha : Sl w B A n (la.map u8v)) (hb : Sl w B A' n' (lb.map u8v)) :
    Calls Try.prog 69 #[.slice A n c, .slice A' n' c'] w fun e w' => e = .returned (.bool (decide (la = lb))) ∧ w = w' := by
  have e1 := conv_sl (P := Try.prog) 26 5 9 Try.underlying26 Try.underlying5 Try.underlying9 ha c
  have e2 := conv_sl (P := Try.prog) 26 5 9 Try.underlying26 Try.underlying5 Try.underlying9 hb c'
  have HE := Lib.hid (bs_beq la lb h1 h2)
  clear ha hb h1 h2
  go_enter Try.func69, Try.ntmps69
  go_wp2
  go_ret
  refine ⟨?_, rfl⟩
  rw [← HE.out]
  rfl

set_option maxHeartbeats 1000000 in
theorem pdec_short (w : World) (A : Option Addr) (n c : Nat) (hn : n < 5) :
    Calls Try.prog 43 #[.slice A n c] w fun e w' => e = .returned (.tuple #[.pointer none, .int .i64 5]) ∧ Below w.heap.size w w' := by
  have hnb : decide ((n : Int) < 5) = true := by simp; omega
  go_enter Try.func43, Try.ntmps43
  go_wp2
  go_ret2
  exact ⟨rfl, Below.refl _ _⟩

theorem ofInt_i64n (a : Nat) (ha : a < 9223372036854775808) : (BitVec.ofInt 64 (a : Int)).toNat = a := by
  rw [BitVec.ofInt_natCast, BitVec.toNat_ofNat]; exact Nat.mod_eq_of_lt (by omega)
theorem i64_or_n (a b : Nat) (ha : a < 9223372036854775808) (hb : b < 9223372036854775808) : bits .or .i64 (a : Int) (b : Int) = ((a ||| b : Nat) : Int) := by
  have hx : a ||| b < 2 ^ 63 := Nat.or_lt_two_pow (by omega) (by omega)
  show IntKind.i64.wrap ((BitVec.ofInt 64 (a : Int) ||| BitVec.ofInt 64 (b : Int)).toNat : Int) = _
  rw [BitVec.toNat_or, ofInt_i64n a ha, ofInt_i64n b hb, IntKind.wrap_i64]
  omega
theorem i64_or_shift (a b k q : Nat) (hq : q = 2 ^ k) (ha : a < q) (hab : a + b * q < 9223372036854775808) : bits .or .i64 (a : Int) ((b : Int) * (q : Int)) = ((a + b * q : Nat) : Int) := by
  have e : (b : Int) * (q : Int) = ((b * q : Nat) : Int) := by simp
  rw [e, i64_or_n a (b * q) (by omega) (by omega)]
  congr 1
  rw [Nat.add_comm, Nat.mul_comm b q, hq]
  rw [hq] at ha
  rw [Nat.two_pow_add_eq_or_of_lt ha, Nat.or_comm]
theorem or4_1 (b0 b1 : Nat) (h0 : b0 < 256) (h1 : b1 < 256) : bits .or .i64 (b0 : Int) ((b1 : Int) * 256) = ((b0 + b1 * 256 : Nat) : Int) := i64_or_shift b0 b1 8 256 rfl h0 (by omega)
theorem or4_2 (x b2 : Nat) (h0 : x < 65536) (h1 : b2 < 256) : bits .or .i64 (x : Int) ((b2 : Int) * 65536) = ((x + b2 * 65536 : Nat) : Int) := i64_or_shift x b2 16 65536 rfl h0 (by omega)
theorem or4_3 (x b3 : Nat) (h0 : x < 16777216) (h1 : b3 < 256) : bits .or .i64 (x : Int) ((b3 : Int) * 16777216) = ((x + b3 * 16777216 : Nat) : Int) := i64_or_shift x b3 24 16777216 rfl h0 (by omega)

/-- The five bytes of the head, and what they say. -/
structure Head (w : World) (b off n b0 b1 b2 b3 wd N4 : Nat) : Prop where
  h0 : b0 < 256
  h1 : b1 < 256
  h2 : b2 < 256
  h3 : b3 < 256
  h4 : wd < 256
  c0 : w.cell? ⟨b, off, none⟩ = some (.int .u8 (b0 : Int))
  c1 : w.cell? ⟨b, off + 1, none⟩ = some (.int .u8 (b1 : Int))
  c2 : w.cell? ⟨b, off + 2, none⟩ = some (.int .u8 (b2 : Int))
  c3 : w.cell? ⟨b, off + 3, none⟩ = some (.int .u8 (b3 : Int))
  c4 : w.cell? ⟨b, off + 4, none⟩ = some (.int .u8 (wd : Int))
  eN : N4 = b0 + b1 * 256 + b2 * 65536 + b3 * 16777216

set_option maxHeartbeats 4000000 in
theorem pdec_bad1 (w : World) (b off n c b0 b1 b2 b3 wd N4 : Nat) (hn : 5 ≤ n) (hnm : n ≤ 9223372036854775807) (hh : Head w b off n b0 b1 b2 b3 wd N4) (hbad : 1048576 < N4) :
    Calls Try.prog 43 #[.slice (some ⟨b, off, none⟩) n c] w fun e w' => e = .returned (.tuple #[.pointer none, .int .i64 5]) ∧ Below w.heap.size w w' := by
  obtain ⟨h0, h1, h2, h3, h4, c0, c1, c2, c3, c4, eN⟩ := hh
  have hnb : decide ((n : Int) < 5) = false := by simp; omega
  have i0 : (0 : Int) < (n : Int) := by omega
  have i1 : (1 : Int) < (n : Int) := by omega
  have i2 : (2 : Int) < (n : Int) := by omega
  have i3 : (3 : Int) < (n : Int) := by omega
  have i4 : (4 : Int) < (n : Int) := by omega
  have hN4 : N4 < 4294967296 := by omega
  obtain ⟨x1, hx1⟩ : ∃ x1, b0 + b1 * 256 = x1 := ⟨_, rfl⟩
  obtain ⟨x2, hx2⟩ : ∃ x2, x1 + b2 * 65536 = x2 := ⟨_, rfl⟩
  have o1 := or4_1 b0 b1 h0 h1
  have o2 := or4_2 x1 b2 (by omega) h2
  have o3 := or4_3 x2 b3 (by omega) h3
  rw [show x2 + b3 * 16777216 = N4 by omega] at o3
  rw [hx1] at o1
  rw [hx2] at o2
  clear eN hx1 hx2
  have g1 : decide ((1048576 : Int) < (N4 : Int)) = true := by simp; omega
  go_enter Try.func43, Try.ntmps43
  go_wp2
  go_region
  clear o1 o2 o3 i0 i1 i2 i3 i4
  go_wp2
  go_quiet (fail)
  go_wp2
  go_ret2
  exact ⟨rfl, bel_drewN ((Below.refl _ _).alloc (Nat.le_refl _) _).drew _⟩

set_option maxHeartbeats 4000000 in
theorem pdec_bad2 (w : World) (b off n c b0 b1 b2 b3 wd N4 : Nat) (hn : 5 ≤ n) (hnm : n ≤ 9223372036854775807) (hh : Head w b off n b0 b1 b2 b3 wd N4) (hok : N4 ≤ 1048576) (hbad : 64 < wd) :
    Calls Try.prog 43 #[.slice (some ⟨b, off, none⟩) n c] w fun e w' => e = .returned (.tuple #[.pointer none, .int .i64 5]) ∧ Below w.heap.size w w' := by
  obtain ⟨h0, h1, h2, h3, h4, c0, c1, c2, c3, c4, eN⟩ := hh
  have hnb : decide ((n : Int) < 5) = false := by simp; omega
  have i0 : (0 : Int) < (n : Int) := by omega
  have i1 : (1 : Int) < (n : Int) := by omega
  have i2 : (2 : Int) < (n : Int) := by omega
  have i3 : (3 : Int) < (n : Int) := by omega
  have i4 : (4 : Int) < (n : Int) := by omega
  have hN4 : N4 < 4294967296 := by omega
  obtain ⟨x1, hx1⟩ : ∃ x1, b0 + b1 * 256 = x1 := ⟨_, rfl⟩
  obtain ⟨x2, hx2⟩ : ∃ x2, x1 + b2 * 65536 = x2 := ⟨_, rfl⟩
  have o1 := or4_1 b0 b1 h0 h1
  have o2 := or4_2 x1 b2 (by omega) h2
  have o3 := or4_3 x2 b3 (by omega) h3
  rw [show x2 + b3 * 16777216 = N4 by omega] at o3
  rw [hx1] at o1
  rw [hx2] at o2
  clear eN hx1 hx2
  have g1 : decide ((1048576 : Int) < (N4 : Int)) = false := by simp; omega
  have g2 : decide ((64 : Int) < (wd : Int)) = true := by simp; omega
  go_enter Try.func43, Try.ntmps43
  go_wp2
  go_region
  clear o1 o2 o3 i0 i1 i2 i3 i4
  go_wp2
  go_quiet (fail)
  go_wp2
  go_ret2
  exact ⟨rfl, bel_drewN ((Below.refl _ _).alloc (Nat.le_refl _) _).drew _⟩

set_option maxHeartbeats 4000000 in
theorem pdec_bad3 (w : World) (b off n c b0 b1 b2 b3 wd N4 : Nat) (hn : 5 ≤ n) (hnm : n ≤ 9223372036854775807) (hh : Head w b off n b0 b1 b2 b3 wd N4) (hok : N4 ≤ 1048576) (hok2 : wd ≤ 64) (hbad : ¬ n = 5 + (N4 * wd + 7) / 8) :
    Calls Try.prog 43 #[.slice (some ⟨b, off, none⟩) n c] w fun e w' => e = .returned (.tuple #[.pointer none, .int .i64 5]) ∧ Below w.heap.size w w' := by
  obtain ⟨h0, h1, h2, h3, h4, c0, c1, c2, c3, c4, eN⟩ := hh
  have hnb : decide ((n : Int) < 5) = false := by simp; omega
  have i0 : (0 : Int) < (n : Int) := by omega
  have i1 : (1 : Int) < (n : Int) := by omega
  have i2 : (2 : Int) < (n : Int) := by omega
  have i3 : (3 : Int) < (n : Int) := by omega
  have i4 : (4 : Int) < (n : Int) := by omega
  have hN4 : N4 < 4294967296 := by omega
  obtain ⟨x1, hx1⟩ : ∃ x1, b0 + b1 * 256 = x1 := ⟨_, rfl⟩
  obtain ⟨x2, hx2⟩ : ∃ x2, x1 + b2 * 65536 = x2 := ⟨_, rfl⟩
  have o1 := or4_1 b0 b1 h0 h1
  have o2 := or4_2 x1 b2 (by omega) h2
  have o3 := or4_3 x2 b3 (by omega) h3
  rw [show x2 + b3 * 16777216 = N4 by omega] at o3
  rw [hx1] at o1
  rw [hx2] at o2
  clear eN hx1 hx2
  have g1 : decide ((1048576 : Int) < (N4 : Int)) = false := by simp; omega
  have g2 : decide ((64 : Int) < (wd : Int)) = false := by simp; omega
  have hp : N4 * wd ≤ 67108864 := by
    have := Nat.mul_le_mul hok hok2
    omega
  have hpi : (N4 : Int) * (wd : Int) ≤ 67108864 := by rw [cast_prod]; omega
  have hpi0 : 0 ≤ (N4 : Int) * (wd : Int) := by rw [cast_prod]; omega
  have e1 : IntKind.i64.wrap ((N4 : Int) * (wd : Int)) = (N4 : Int) * (wd : Int) := IntWalk.i64_in _ (by omega)
  have e2 : IntKind.i64.wrap ((N4 : Int) * (wd : Int) + 7) = (N4 : Int) * (wd : Int) + 7 := IntWalk.i64_in _ (by omega)
  have g3 : ((n : Int) != 5 + ((N4 : Int) * (wd : Int) + 7) / 8) = true := by rw [bne_iff_ne, cast_prod]; omega
  go_enter Try.func43, Try.ntmps43
  go_wp2
  go_region
  clear o1 o2 o3 i0 i1 i2 i3 i4
  go_wp2
  go_quiet (fail)
  go_wp2
  go_ret2
  exact ⟨rfl, bel_drewN ((Below.refl _ _).alloc (Nat.le_refl _) _).drew _⟩

end Go.Proofs.Ytpnkjfjkeoleaaa
