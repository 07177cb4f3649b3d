/- Plain mathematics of bit vectors: counting bits; the steps of OnesCount64. No conditions beyond those each theorem names. -/
import Derived.Test.YtpnkjfjkeoleaaaPlain
set_option linter.unusedVariables false
set_option maxRecDepth 100000
namespace Go.Proofs.Ytpnkjfjkeoleaaa.HK


/-- How many of the bits below a are set. -/
def cnt (N : Nat) : Nat → Nat
  | 0 => 0
  | a + 1 => cnt N a + (N.testBit a).toNat
theorem cnt_le (N : Nat) : ∀ a, cnt N a ≤ a
  | 0 => by simp [cnt]
  | a + 1 => by have := cnt_le N a; simp only [cnt]; have := Bool.toNat_le (N.testBit a); omega
theorem cnt_mono (N a : Nat) : ∀ b, a ≤ b → cnt N a ≤ cnt N b
  | 0, h => by have : a = 0 := by omega
               subst this; exact Nat.le_refl _
  | b + 1, h => by
    by_cases e : a = b + 1
    · subst e; exact Nat.le_refl _
    · have := cnt_mono N a b (by omega); simp only [cnt]; omega
theorem cnt_word (N k : Nat) : ∀ j, j ≤ 64 → cnt N (64 * k) + cnt (word N k) j = cnt N (64 * k + j)
  | 0, _ => by simp [cnt]
  | j + 1, h => by
    have ih := cnt_word N k j (by omega)
    rw [← Nat.add_assoc]
    simp only [cnt, word_bit]
    have : j < 64 := by omega
    simp only [this, decide_true, Bool.true_and]
    omega
theorem cnt_shift (x s : Nat) : ∀ j, s + j ≤ 64 → cnt (x * 2 ^ s % 2 ^ 64) (s + j) = cnt x j
  | 0, h => by
    have : ∀ t, t ≤ s → cnt (x * 2 ^ s % 2 ^ 64) t = 0 := by
      intro t
      induction t with
      | zero => intro _; rfl
      | succ t ih =>
        intro ht
        simp only [cnt]
        rw [ih (by omega), Nat.testBit_mod_two_pow, bit_mul]
        have e : ¬ s ≤ t := by omega
        simp [e]
    rw [Nat.add_zero, this s (Nat.le_refl _)]; rfl
  | j + 1, h => by
    have ih := cnt_shift x s j (by omega)
    rw [← Nat.add_assoc]
    simp only [cnt]
    rw [ih, Nat.testBit_mod_two_pow, bit_mul]
    have e1 : s + j < 64 := by omega
    have e2 : s + j - s = j := by omega
    simp [e1, e2]
theorem cnt_cons (b y : Nat) (hb : b < 256) : ∀ j, cnt (b + 256 * y) (8 + j) = cnt b 8 + cnt y j
  | 0 => by
    have h : ∀ t, t ≤ 8 → cnt (b + 256 * y) t = cnt b t := by
      intro t
      induction t with
      | zero => intro _; rfl
      | succ t ih =>
        intro ht
        simp only [cnt]
        rw [ih (by omega)]
        have : (b + 256 * y).testBit t = b.testBit t := by
          have e : (b + 256 * y) % 2 ^ 8 = b := by omega
          have e2 := Nat.testBit_mod_two_pow (b + 256 * y) 8 t
          rw [e] at e2
          rw [e2]
          have : t < 8 := by omega
          simp [this]
        rw [this]
    rw [Nat.add_zero, h 8 (Nat.le_refl _)]; rfl
  | j + 1 => by
    have ih := cnt_cons b y hb j
    show cnt (b + 256 * y) (8 + j) + ((b + 256 * y).testBit (8 + j)).toNat = cnt b 8 + (cnt y j + (y.testBit j).toNat)
    have : (b + 256 * y).testBit (8 + j) = y.testBit j := by
      have e : (b + 256 * y) / 2 ^ 8 = y := by omega
      have e2 : ((b + 256 * y) / 2 ^ 8).testBit j = _ := Nat.testBit_div_two_pow _ _
      rw [e] at e2
      rw [e2, Nat.add_comm 8 j]
    have e8 : cnt (b + 256 * y) (8 + j) = cnt b 8 + cnt y j := ih
    rw [e8, this, Nat.add_assoc]

/-! OnesCount64: bytes side by side. -/
def bb (l : List Nat) : Nat := packN 8 l
theorem and_cons (b c y d : Nat) (hb : b < 256) (hc : c < 256) : (b + 256 * y) &&& (c + 256 * d) = (b &&& c) + 256 * (y &&& d) := by
  have hlt : b &&& c < 2 ^ 8 := Nat.and_lt_two_pow _ (by omega)
  apply Nat.eq_of_testBit_eq
  intro j
  rw [Nat.testBit_and]
  have f : ∀ (p q : Nat), p < 256 → (p + 256 * q).testBit j = if j < 8 then p.testBit j else q.testBit (j - 8) := by
    intro p q hp
    by_cases hj : j < 8
    · rw [if_pos hj]
      have e : (p + 256 * q) % 2 ^ 8 = p := by omega
      have e2 := Nat.testBit_mod_two_pow (p + 256 * q) 8 j
      rw [e] at e2
      rw [e2]; simp [hj]
    · rw [if_neg hj]
      have e : (p + 256 * q) / 2 ^ 8 = q := by omega
      have e2 : ((p + 256 * q) / 2 ^ 8).testBit (j - 8) = _ := Nat.testBit_div_two_pow _ _
      rw [e] at e2
      rw [e2]; congr 1; omega
  rw [f b y hb, f c d hc, f (b &&& c) (y &&& d) (by omega)]
  by_cases hj : j < 8
  · simp [hj]
  · simp [hj]
def rep (c : Nat) : Nat → Nat
  | 0 => 0
  | j + 1 => c + 256 * rep c j
theorem swar1 : ∀ (j : Nat) (l : List Nat), l.length = j → (∀ b ∈ l, b < 256) → (packN 8 l / 2 &&& rep 85 j) + (packN 8 l &&& rep 85 j) = packN 8 (l.map fun b => (b / 2 &&& 85) + (b &&& 85))
  | 0, [], _, _ => by simp [packN, rep]
  | j + 1, b :: l, hl, hb => by
    have ih := swar1 j l (by simpa using hl) (fun x hx => hb x (by simp [hx]))
    have hb0 : b < 256 := hb b (by simp)
    simp only [packN, rep, List.map_cons]
    rw [show (2 : Nat) ^ 8 = 256 from rfl]
    have e : (b + 256 * packN 8 l) / 2 = (b / 2 + 128 * (packN 8 l % 2)) + 256 * (packN 8 l / 2) := by omega
    rw [e, and_cons _ _ _ _ (by omega) (by decide), and_cons _ _ _ _ hb0 (by decide), ← ih]
    have g : ∀ (b : Fin 256) (t : Fin 2), (b.val / 2 + 128 * t.val) &&& 85 = b.val / 2 &&& 85 := by decide +kernel
    have g1 := g ⟨b, hb0⟩ ⟨packN 8 l % 2, Nat.mod_lt _ (by decide)⟩
    simp only at g1
    rw [g1]
    omega
theorem swar2 : ∀ (j : Nat) (l : List Nat), l.length = j → (∀ b ∈ l, b < 256) → (packN 8 l / 4 &&& rep 51 j) + (packN 8 l &&& rep 51 j) = packN 8 (l.map fun b => (b / 4 &&& 51) + (b &&& 51))
  | 0, [], _, _ => by simp [packN, rep]
  | j + 1, b :: l, hl, hb => by
    have ih := swar2 j l (by simpa using hl) (fun x hx => hb x (by simp [hx]))
    have hb0 : b < 256 := hb b (by simp)
    simp only [packN, rep, List.map_cons]
    rw [show (2 : Nat) ^ 8 = 256 from rfl]
    have e : (b + 256 * packN 8 l) / 4 = (b / 4 + 64 * (packN 8 l % 4)) + 256 * (packN 8 l / 4) := by omega
    rw [e, and_cons _ _ _ _ (by omega) (by decide), and_cons _ _ _ _ hb0 (by decide), ← ih]
    have g : ∀ (b : Fin 256) (t : Fin 4), (b.val / 4 + 64 * t.val) &&& 51 = b.val / 4 &&& 51 := by decide +kernel
    have g1 := g ⟨b, hb0⟩ ⟨packN 8 l % 4, Nat.mod_lt _ (by decide)⟩
    simp only at g1
    rw [g1]
    omega
theorem swar3 : ∀ (j : Nat) (l : List Nat), l.length = j → (∀ b ∈ l, b < 128 ∧ b % 16 ≤ 4 ∧ b / 16 ≤ 4) → (packN 8 l / 16 + packN 8 l) &&& rep 15 j = packN 8 (l.map fun b => (b / 16 + b) &&& 15)
  | 0, [], _, _ => by simp [packN, rep]
  | j + 1, b :: l, hl, hb => by
    have ih := swar3 j l (by simpa using hl) (fun x hx => hb x (by simp [hx]))
    have hb0 := hb b (by simp)
    simp only [packN, rep, List.map_cons]
    rw [show (2 : Nat) ^ 8 = 256 from rfl]
    have hq : packN 8 l % 16 ≤ 4 := by
      match l, hb with
      | [], _ => simp [packN]
      | c :: l, hb => have := hb c (by simp); simp only [packN]; omega
    have e : (b + 256 * packN 8 l) / 16 + (b + 256 * packN 8 l) = (b / 16 + b + 16 * (packN 8 l % 16)) + 256 * (packN 8 l / 16 + packN 8 l) := by omega
    have e2 : b / 16 + b + 16 * (packN 8 l % 16) < 256 := by omega
    rw [e, and_cons _ _ _ _ e2 (by decide), ih]
    have g : ∀ (b : Fin 128) (t : Fin 5), (b.val / 16 + b.val + 16 * t.val) &&& 15 = (b.val / 16 + b.val) &&& 15 := by decide +kernel
    have g1 := g ⟨b, hb0.1⟩ ⟨packN 8 l % 16, by omega⟩
    simp only at g1
    rw [g1]
theorem swar_byte : ∀ b : Fin 256,
    let c := (b.val / 2 &&& 85) + (b.val &&& 85)
    let d := (c / 4 &&& 51) + (c &&& 51)
    c < 256 ∧ d < 128 ∧ d % 16 ≤ 4 ∧ d / 16 ≤ 4 ∧ ((d / 16 + d) &&& 15) = cnt b.val 8 := by decide +kernel
theorem list8 (l : List Nat) (h : l.length = 8) : ∃ a b c d e f g i, l = [a, b, c, d, e, f, g, i] := by
  match l, h with
  | [a, b, c, d, e, f, g, i], _ => exact ⟨a, b, c, d, e, f, g, i, rfl⟩
def sw1 (x : Nat) : Nat := (x / 2 &&& 6148914691236517205) + (x &&& 6148914691236517205)
def sw2 (x : Nat) : Nat := (x / 4 &&& 3689348814741910323) + (x &&& 3689348814741910323)
def sw3 (x : Nat) : Nat := (x / 16 + x) &&& 1085102592571150095
def sw4 (x : Nat) : Nat := x + x / 256
def sw5 (x : Nat) : Nat := x + x / 65536
def sw6 (x : Nat) : Nat := x + x / 4294967296
theorem rep85 : rep 85 8 = 6148914691236517205 := by decide
theorem rep51 : rep 51 8 = 3689348814741910323 := by decide
theorem rep15 : rep 15 8 = 1085102592571150095 := by decide
theorem pack8 (p0 p1 p2 p3 p4 p5 p6 p7 : Nat) : packN 8 [p0, p1, p2, p3, p4, p5, p6, p7] = p0 + 256 * p1 + 65536 * p2 + 16777216 * p3 + 4294967296 * p4 + 1099511627776 * p5 + 281474976710656 * p6 + 72057594037927936 * p7 := by
  simp only [packN, Nat.mul_add, ← Nat.mul_assoc, Nat.mul_zero, Nat.add_zero]
  simp only [Nat.reducePow, Nat.reduceMul, Nat.add_assoc]
theorem quot8 (a b : Nat) (h : a < 256) : (a + 256 * b) / 256 = b := by omega
theorem quot16 (a b : Nat) (h : a < 65536) : (a + 65536 * b) / 65536 = b := by omega
theorem quot32 (a b : Nat) (h : a < 4294967296) : (a + 4294967296 * b) / 4294967296 = b := by omega
theorem sw4_at (p0 p1 p2 p3 p4 p5 p6 p7 : Nat) (h0 : p0 ≤ 8) (h1 : p1 ≤ 8) (h2 : p2 ≤ 8) (h3 : p3 ≤ 8) (h4 : p4 ≤ 8) (h5 : p5 ≤ 8) (h6 : p6 ≤ 8) (h7 : p7 ≤ 8) : sw4 (p0 + 256 * p1 + 65536 * p2 + 16777216 * p3 + 4294967296 * p4 + 1099511627776 * p5 + 281474976710656 * p6 + 72057594037927936 * p7) = (p0 + p1) + 256 * (p1 + p2) + 65536 * (p2 + p3) + 16777216 * (p3 + p4) + 4294967296 * (p4 + p5) + 1099511627776 * (p5 + p6) + 281474976710656 * (p6 + p7) + 72057594037927936 * p7 := by
  unfold sw4
  have e : p0 + 256 * p1 + 65536 * p2 + 16777216 * p3 + 4294967296 * p4 + 1099511627776 * p5 + 281474976710656 * p6 + 72057594037927936 * p7 = p0 + 256 * (p1 + 256 * p2 + 65536 * p3 + 16777216 * p4 + 4294967296 * p5 + 1099511627776 * p6 + 281474976710656 * p7) := by omega
  rw [e, quot8 _ _ (by omega)]
  omega
theorem sw5_at (p0 p1 p2 p3 p4 p5 p6 p7 : Nat) (h0 : p0 ≤ 8) (h1 : p1 ≤ 8) (h2 : p2 ≤ 8) (h3 : p3 ≤ 8) (h4 : p4 ≤ 8) (h5 : p5 ≤ 8) (h6 : p6 ≤ 8) (h7 : p7 ≤ 8) : sw5 ((p0 + p1) + 256 * (p1 + p2) + 65536 * (p2 + p3) + 16777216 * (p3 + p4) + 4294967296 * (p4 + p5) + 1099511627776 * (p5 + p6) + 281474976710656 * (p6 + p7) + 72057594037927936 * p7) = (p0 + p1 + p2 + p3) + 256 * (p1 + p2 + p3 + p4) + 65536 * (p2 + p3 + p4 + p5) + 16777216 * (p3 + p4 + p5 + p6) + 4294967296 * (p4 + p5 + p6 + p7) + 1099511627776 * (p5 + p6 + p7) + 281474976710656 * (p6 + p7) + 72057594037927936 * p7 := by
  unfold sw5
  have e : (p0 + p1) + 256 * (p1 + p2) + 65536 * (p2 + p3) + 16777216 * (p3 + p4) + 4294967296 * (p4 + p5) + 1099511627776 * (p5 + p6) + 281474976710656 * (p6 + p7) + 72057594037927936 * p7 = (p0 + p1 + 256 * (p1 + p2)) + 65536 * ((p2 + p3) + 256 * (p3 + p4) + 65536 * (p4 + p5) + 16777216 * (p5 + p6) + 4294967296 * (p6 + p7) + 1099511627776 * p7) := by omega
  rw [e, quot16 _ _ (by omega)]
  omega
theorem sw6_at (p0 p1 p2 p3 p4 p5 p6 p7 : Nat) (h0 : p0 ≤ 8) (h1 : p1 ≤ 8) (h2 : p2 ≤ 8) (h3 : p3 ≤ 8) (h4 : p4 ≤ 8) (h5 : p5 ≤ 8) (h6 : p6 ≤ 8) (h7 : p7 ≤ 8) : sw6 ((p0 + p1 + p2 + p3) + 256 * (p1 + p2 + p3 + p4) + 65536 * (p2 + p3 + p4 + p5) + 16777216 * (p3 + p4 + p5 + p6) + 4294967296 * (p4 + p5 + p6 + p7) + 1099511627776 * (p5 + p6 + p7) + 281474976710656 * (p6 + p7) + 72057594037927936 * p7) = (p0 + p1 + p2 + p3 + p4 + p5 + p6 + p7) + 256 * (p1 + p2 + p3 + p4 + p5 + p6 + p7) + 65536 * (p2 + p3 + p4 + p5 + p6 + p7) + 16777216 * (p3 + p4 + p5 + p6 + p7) + 4294967296 * (p4 + p5 + p6 + p7) + 1099511627776 * (p5 + p6 + p7) + 281474976710656 * (p6 + p7) + 72057594037927936 * p7 := by
  unfold sw6
  have e : (p0 + p1 + p2 + p3) + 256 * (p1 + p2 + p3 + p4) + 65536 * (p2 + p3 + p4 + p5) + 16777216 * (p3 + p4 + p5 + p6) + 4294967296 * (p4 + p5 + p6 + p7) + 1099511627776 * (p5 + p6 + p7) + 281474976710656 * (p6 + p7) + 72057594037927936 * p7 = ((p0 + p1 + p2 + p3) + 256 * (p1 + p2 + p3 + p4) + 65536 * (p2 + p3 + p4 + p5) + 16777216 * (p3 + p4 + p5 + p6)) + 4294967296 * ((p4 + p5 + p6 + p7) + 256 * (p5 + p6 + p7) + 65536 * (p6 + p7) + 16777216 * p7) := by omega
  rw [e, quot32 _ _ (by omega)]
  omega
theorem sw_last (p0 p1 p2 p3 p4 p5 p6 p7 : Nat) (h0 : p0 ≤ 8) (h1 : p1 ≤ 8) (h2 : p2 ≤ 8) (h3 : p3 ≤ 8) (h4 : p4 ≤ 8) (h5 : p5 ≤ 8) (h6 : p6 ≤ 8) (h7 : p7 ≤ 8) : ((p0 + p1 + p2 + p3 + p4 + p5 + p6 + p7) + 256 * (p1 + p2 + p3 + p4 + p5 + p6 + p7) + 65536 * (p2 + p3 + p4 + p5 + p6 + p7) + 16777216 * (p3 + p4 + p5 + p6 + p7) + 4294967296 * (p4 + p5 + p6 + p7) + 1099511627776 * (p5 + p6 + p7) + 281474976710656 * (p6 + p7) + 72057594037927936 * p7) % 128 = p0 + (p1 + (p2 + (p3 + (p4 + (p5 + (p6 + p7)))))) := by
  have e : (p0 + p1 + p2 + p3 + p4 + p5 + p6 + p7) + 256 * (p1 + p2 + p3 + p4 + p5 + p6 + p7) + 65536 * (p2 + p3 + p4 + p5 + p6 + p7) + 16777216 * (p3 + p4 + p5 + p6 + p7) + 4294967296 * (p4 + p5 + p6 + p7) + 1099511627776 * (p5 + p6 + p7) + 281474976710656 * (p6 + p7) + 72057594037927936 * p7 = (p0 + p1 + p2 + p3 + p4 + p5 + p6 + p7) + 128 * (2 * ((p1 + p2 + p3 + p4 + p5 + p6 + p7) + 256 * (p2 + p3 + p4 + p5 + p6 + p7) + 65536 * (p3 + p4 + p5 + p6 + p7) + 16777216 * (p4 + p5 + p6 + p7) + 4294967296 * (p5 + p6 + p7) + 1099511627776 * (p6 + p7) + 281474976710656 * p7)) := by omega
  rw [e, Nat.add_mul_mod_self_left, Nat.mod_eq_of_lt (by omega)]
  omega
theorem swar_all (x : Nat) (hx : x < 2 ^ 64) : sw6 (sw5 (sw4 (sw3 (sw2 (sw1 x))))) % 128 = cnt x 64 ∧
    sw1 x < 2 ^ 64 ∧ sw2 (sw1 x) < 2 ^ 63 ∧ sw3 (sw2 (sw1 x)) < 2 ^ 60 ∧ sw4 (sw3 (sw2 (sw1 x))) < 2 ^ 61 ∧ sw5 (sw4 (sw3 (sw2 (sw1 x)))) < 2 ^ 62 ∧ sw6 (sw5 (sw4 (sw3 (sw2 (sw1 x))))) < 2 ^ 63 := by
  have hxe := packN_bytesN 8 x hx
  have hlen := bytesN_length x 8
  have hlt := bytesN_lt x 8
  generalize bytesN x 8 = l at hxe hlen hlt
  have e1 : sw1 x = packN 8 (l.map fun b => (b / 2 &&& 85) + (b &&& 85)) := by
    rw [← swar1 8 l hlen hlt, rep85, hxe]; rfl
  have h1 : ∀ b ∈ l.map (fun b => (b / 2 &&& 85) + (b &&& 85)), b < 256 := by
    intro b hb
    obtain ⟨a, ha, rfl⟩ := List.mem_map.1 hb
    exact (swar_byte ⟨a, hlt a ha⟩).1
  have e2 : sw2 (sw1 x) = packN 8 ((l.map fun b => (b / 2 &&& 85) + (b &&& 85)).map fun b => (b / 4 &&& 51) + (b &&& 51)) := by
    rw [e1, ← swar2 8 _ (by simp [hlen]) h1, rep51]; rfl
  have h2 : ∀ b ∈ (l.map fun b => (b / 2 &&& 85) + (b &&& 85)).map (fun b => (b / 4 &&& 51) + (b &&& 51)), b < 128 ∧ b % 16 ≤ 4 ∧ b / 16 ≤ 4 := by
    intro b hb
    rw [List.map_map] at hb
    obtain ⟨a, ha, rfl⟩ := List.mem_map.1 hb
    have := swar_byte ⟨a, hlt a ha⟩
    exact ⟨this.2.1, this.2.2.1, this.2.2.2.1⟩
  have e3 : sw3 (sw2 (sw1 x)) = packN 8 (l.map fun b => cnt b 8) := by
    have e : l.map (fun b => cnt b 8) = ((l.map fun b => (b / 2 &&& 85) + (b &&& 85)).map fun b => (b / 4 &&& 51) + (b &&& 51)).map fun b => (b / 16 + b) &&& 15 := by
      rw [List.map_map, List.map_map]
      apply List.map_congr_left
      intro a ha
      exact ((swar_byte ⟨a, hlt a ha⟩).2.2.2.2).symm
    rw [e2, e, ← swar3 8 _ (by simp [hlen]) h2, rep15]; rfl
  have b1 : sw1 x < 2 ^ 64 := by rw [e1]; exact Nat.lt_of_lt_of_le (packN_lt 8 _ h1) (by simp [hlen])
  have b2 : sw2 (sw1 x) < 2 ^ 63 := by
    have : sw2 (sw1 x) ≤ 3689348814741910323 + 3689348814741910323 := by
      unfold sw2; exact Nat.add_le_add Nat.and_le_right Nat.and_le_right
    omega
  have hx2 : cnt x 64 = (l.map fun b => cnt b 8).sum := by
    rw [← hxe]
    have : ∀ (j : Nat) (l : List Nat), l.length = j → (∀ b ∈ l, b < 256) → cnt (packN 8 l) (8 * j) = (l.map fun b => cnt b 8).sum := by
      intro j
      induction j with
      | zero => intro l hl _; match l, hl with
                              | [], _ => simp [cnt]
      | succ j ih =>
        intro l hl hb
        match l, hl with
        | b :: l, hl =>
          rw [show 8 * (j + 1) = 8 + 8 * j by omega]
          simp only [packN, List.map_cons, List.sum_cons]
          rw [show (2 : Nat) ^ 8 = 256 from rfl, cnt_cons b _ (hb b (by simp)), ih l (by simpa using hl) (fun x hx => hb x (by simp [hx]))]
    exact this 8 l hlen hlt
  rw [hx2, e3]
  have hp : ∀ b ∈ l.map (fun b => cnt b 8), b ≤ 8 := by
    intro b hb
    obtain ⟨a, _, rfl⟩ := List.mem_map.1 hb
    exact cnt_le _ _
  obtain ⟨p0, p1, p2, p3, p4, p5, p6, p7, hl⟩ := list8 (l.map fun b => cnt b 8) (by simp [hlen])
  rw [hl] at hp ⊢
  simp only [List.mem_cons, List.not_mem_nil, or_false, forall_eq_or_imp, forall_eq] at hp
  simp only [List.sum_cons, List.sum_nil, Nat.add_zero]
  obtain ⟨q0, q1, q2, q3, q4, q5, q6, q7⟩ := hp
  clear e1 e2 e3 h1 h2 hx2 hxe hlt
  rw [pack8, sw4_at _ _ _ _ _ _ _ _ q0 q1 q2 q3 q4 q5 q6 q7, sw5_at _ _ _ _ _ _ _ _ q0 q1 q2 q3 q4 q5 q6 q7, sw6_at _ _ _ _ _ _ _ _ q0 q1 q2 q3 q4 q5 q6 q7, sw_last _ _ _ _ _ _ _ _ q0 q1 q2 q3 q4 q5 q6 q7]
  refine ⟨rfl, b1, b2, ?_⟩
  clear b1 b2 hx hl
  refine ⟨?_, ?_, ?_, ?_⟩ <;> omega

/-! A list of bits as a number. -/
def bitsN (l : List Bool) : Nat := packN 1 (l.map Bool.toNat)
theorem bitsN_all (l : List Bool) : ∀ v ∈ l.map Bool.toNat, v < 2 ^ 1 := by
  intro v hv
  obtain ⟨b, _, rfl⟩ := List.mem_map.1 hv
  have := Bool.toNat_le b
  omega
theorem bitsN_lt (l : List Bool) : bitsN l < 2 ^ l.length := by
  have := packN_lt 1 _ (bitsN_all l)
  simpa [bitsN] using this
theorem bitsN_snoc (l : List Bool) (b : Bool) : bitsN (l ++ [b]) = bitsN l + 2 ^ l.length * b.toNat := by
  unfold bitsN
  rw [List.map_append, List.map_cons, List.map_nil, packN_append]
  simp
theorem bitsN_bit (l : List Bool) (i : Nat) : (bitsN l).testBit i = l.getD i false := by
  by_cases hi : i < l.length
  · have h := packN_digit 1 _ i (bitsN_all l) (by simpa using hi)
    rw [Nat.one_mul, List.getElem_map] at h
    have h2 : (bitsN l).testBit i = decide (bitsN l / 2 ^ i % 2 = 1) := by
      have := Nat.toNat_testBit (bitsN l) i
      cases hb : (bitsN l).testBit i <;> rw [hb] at this <;> simp at this ⊢ <;> omega
    rw [h2]
    have h3 : bitsN l / 2 ^ i % 2 = l[i].toNat := h
    rw [h3, List.getD_eq_getElem?_getD, List.getElem?_eq_getElem hi]
    cases l[i] <;> simp
  · rw [bit_high _ l.length i (bitsN_lt l) (by omega), List.getD_eq_getElem?_getD, List.getElem?_eq_none (by omega)]; rfl
/-- How many of the first i bits are true. -/
theorem cnt_bits (l : List Bool) : ∀ i, cnt (bitsN l) i = (l.take i).count true
  | 0 => by simp [cnt]
  | i + 1 => by
    have ih := cnt_bits l i
    simp only [cnt]
    rw [ih, bitsN_bit, List.take_add_one]
    by_cases hi : i < l.length
    · rw [List.getElem?_eq_getElem hi, List.count_append, List.getD_eq_getElem?_getD, List.getElem?_eq_getElem hi]
      cases hb : l[i] <;> simp
    · rw [List.getElem?_eq_none (by omega), List.getD_eq_getElem?_getD, List.getElem?_eq_none (by omega)]; simp
end Go.Proofs.Ytpnkjfjkeoleaaa.HK
