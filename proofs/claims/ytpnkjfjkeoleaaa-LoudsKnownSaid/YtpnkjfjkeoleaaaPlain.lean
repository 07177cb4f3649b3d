/- Plain mathematics of packed sequences (numbers, digits, widths, codes): nothing of the program. No conditions beyond those each theorem names. -/
import Derived.WalkKit
set_option linter.unusedVariables false
set_option maxRecDepth 100000
namespace Go.Proofs.Ytpnkjfjkeoleaaa.HK


/-- The big number whose base-2^w digits are the list. -/
def packN (w : Nat) : List Nat → Nat
  | [] => 0
  | v :: l => v + 2 ^ w * packN w l

theorem packN_lt (w : Nat) : ∀ l : List Nat, (∀ v ∈ l, v < 2 ^ w) → packN w l < 2 ^ (w * l.length)
  | [], _ => by simp [packN]
  | v :: l, h => by
    have h1 := packN_lt w l (fun x hx => h x (by simp [hx]))
    have h2 := h v (by simp)
    simp only [packN, List.length_cons, Nat.mul_add, Nat.mul_one, Nat.pow_add]
    have h3 : packN w l + 1 ≤ 2 ^ (w * l.length) := h1
    have h4 : (packN w l + 1) * 2 ^ w ≤ 2 ^ (w * l.length) * 2 ^ w := Nat.mul_le_mul_right _ h3
    rw [Nat.add_mul, Nat.one_mul, Nat.mul_comm (packN w l)] at h4
    omega

theorem packN_append (w : Nat) (v : Nat) : ∀ l : List Nat, packN w (l ++ [v]) = packN w l + 2 ^ (w * l.length) * v
  | [] => by simp [packN]
  | x :: l => by
    simp only [List.cons_append, packN, packN_append w v l, List.length_cons, Nat.mul_add, Nat.mul_one, Nat.pow_add]
    rw [Nat.mul_comm (2 ^ (w * l.length)) (2 ^ w), Nat.mul_assoc]
    omega

theorem packN_digit (w : Nat) : ∀ (l : List Nat) (i : Nat) (_ : ∀ v ∈ l, v < 2 ^ w) (hi : i < l.length), packN w l / 2 ^ (w * i) % 2 ^ w = l[i]
  | v :: l, 0, h, _ => by
    simp only [packN, Nat.mul_zero, Nat.pow_zero, Nat.div_one, List.getElem_cons_zero]
    rw [Nat.add_mul_mod_self_left]
    exact Nat.mod_eq_of_lt (h v (by simp))
  | v :: l, i + 1, h, hi => by
    have ih := packN_digit w l i (fun x hx => h x (by simp [hx])) (by simpa using hi)
    simp only [packN, List.getElem_cons_succ]
    rw [Nat.mul_add, Nat.mul_one, Nat.add_comm (w * i) w, Nat.pow_add, ← Nat.div_div_eq_div_mul, Nat.add_mul_div_left _ _ (Nat.two_pow_pos w), Nat.div_eq_of_lt (h v (by simp)), Nat.zero_add]
    exact ih

/-- Word k of a number, in base 2^64. -/
def word (N k : Nat) : Nat := N / 2 ^ (64 * k) % 2 ^ 64
theorem word_lt (N k : Nat) : word N k < 2 ^ 64 := Nat.mod_lt _ (by decide)
theorem word_bit (N k j : Nat) : (word N k).testBit j = (decide (j < 64) && N.testBit (64 * k + j)) := by
  unfold word
  rw [Nat.testBit_mod_two_pow, Nat.testBit_div_two_pow, Nat.add_comm]

theorem add_shift_or (N v m : Nat) (h : N < 2 ^ m) : N + 2 ^ m * v = N ||| v * 2 ^ m := by
  rw [Nat.add_comm, Nat.two_pow_add_eq_or_of_lt h, Nat.or_comm, Nat.mul_comm]
theorem bit_mul (v m b : Nat) : (v * 2 ^ m).testBit b = (decide (m ≤ b) && v.testBit (b - m)) := by
  rw [Nat.testBit_mul_two_pow]
theorem bit_high (N m b : Nat) (h : N < 2 ^ m) (hb : m ≤ b) : N.testBit b = false :=
  Nat.testBit_lt_two_pow (Nat.lt_of_lt_of_le h (Nat.pow_le_pow_right (by decide) hb))

/-- set: the word where number i begins. -/
theorem word_set_at (N v m : Nat) (h : N < 2 ^ m) : word (N + 2 ^ m * v) (m / 64) = word N (m / 64) ||| (v * 2 ^ (m % 64) % 2 ^ 64) := by
  apply Nat.eq_of_testBit_eq
  intro j
  rw [word_bit, add_shift_or N v m h, Nat.testBit_or, Nat.testBit_or, word_bit, Nat.testBit_mod_two_pow, bit_mul, bit_mul]
  by_cases hj : j < 64
  · have e : (m ≤ 64 * (m / 64) + j) = (m % 64 ≤ j) := by
      apply propext; omega
    have e2 : 64 * (m / 64) + j - m = j - m % 64 := by omega
    simp [hj, e, e2]
  · simp [hj]
/-- set: the next word, where number i goes on. -/
theorem word_set_next (N v m : Nat) (h : N < 2 ^ m) : word (N + 2 ^ m * v) (m / 64 + 1) = word N (m / 64 + 1) ||| (v / 2 ^ (64 - m % 64) % 2 ^ 64) := by
  apply Nat.eq_of_testBit_eq
  intro j
  rw [word_bit, add_shift_or N v m h, Nat.testBit_or, Nat.testBit_or, word_bit, Nat.testBit_mod_two_pow, bit_mul, Nat.testBit_div_two_pow]
  by_cases hj : j < 64
  · have e : m ≤ 64 * (m / 64 + 1) + j := by omega
    have e2 : 64 * (m / 64 + 1) + j - m = j + (64 - m % 64) := by omega
    simp [hj, e, e2]
  · simp [hj]
/-- set: all other words stay. -/
theorem word_set_other (N v m w k : Nat) (h : N < 2 ^ m) (hv : v < 2 ^ w) (hw : w ≤ 64) (hk : k ≠ m / 64) (hk2 : k = m / 64 + 1 → m % 64 + w ≤ 64) : word (N + 2 ^ m * v) k = word N k := by
  apply Nat.eq_of_testBit_eq
  intro j
  rw [word_bit, add_shift_or N v m h, Nat.testBit_or, word_bit, bit_mul]
  by_cases hj : j < 64
  · by_cases hm : m ≤ 64 * k + j
    · have hz : v.testBit (64 * k + j - m) = false := bit_high v w _ hv (by
        by_cases hk3 : k = m / 64 + 1
        · have := hk2 hk3; omega
        · omega)
      simp [hj, hz]
    · simp [hj, hm]
  · simp [hj]
/-- get. -/
theorem word_get_one (N m w : Nat) (hw : m % 64 + w ≤ 64) : word N (m / 64) / 2 ^ (m % 64) % 2 ^ w = N / 2 ^ m % 2 ^ w := by
  apply Nat.eq_of_testBit_eq
  intro j
  rw [Nat.testBit_mod_two_pow, Nat.testBit_mod_two_pow, Nat.testBit_div_two_pow, Nat.testBit_div_two_pow, word_bit]
  by_cases hj : j < w
  · have e : 64 * (m / 64) + (j + m % 64) = j + m := by omega
    have e2 : j + m % 64 < 64 := by omega
    simp [hj, e, e2]
  · simp [hj]
theorem word_get_two (N m w : Nat) (hw : w ≤ 64) : (word N (m / 64) / 2 ^ (m % 64) ||| word N (m / 64 + 1) * 2 ^ (64 - m % 64) % 2 ^ 64) % 2 ^ w = N / 2 ^ m % 2 ^ w := by
  apply Nat.eq_of_testBit_eq
  intro j
  rw [Nat.testBit_mod_two_pow, Nat.testBit_mod_two_pow, Nat.testBit_or, Nat.testBit_div_two_pow, Nat.testBit_div_two_pow, Nat.testBit_mod_two_pow, bit_mul, word_bit, word_bit]
  by_cases hj : j < w
  · by_cases h1 : j + m % 64 < 64
    · have e : 64 * (m / 64) + (j + m % 64) = j + m := by omega
      have e2 : ¬ 64 - m % 64 ≤ j := by omega
      simp [hj, h1, e, e2]
    · have e : 64 * (m / 64 + 1) + (j - (64 - m % 64)) = j + m := by omega
      have e2 : 64 - m % 64 ≤ j := by omega
      have e3 : j < 64 := by omega
      have e4 : j - (64 - m % 64) < 64 := by omega
      simp [hj, h1, e, e2, e3, e4]
  · simp [hj]
/-- The byte i of the number, out of its words. -/
theorem word_byte (N i : Nat) : word N (i / 8) / 2 ^ (i % 8 * 8) % 256 = N / 2 ^ (8 * i) % 256 := by
  have h := word_get_one N (8 * i) 8 (by omega)
  have e : 8 * i / 64 = i / 8 := by omega
  have e2 : 8 * i % 64 = i % 8 * 8 := by omega
  rw [e, e2] at h
  exact h


def blen (v : Nat) : Nat := if v = 0 then 0 else v.log2 + 1
theorem blen_le_iff (v w : Nat) : blen v ≤ w ↔ v < 2 ^ w := by
  unfold blen
  by_cases h : v = 0
  · subst h; simp [Nat.two_pow_pos]
  · rw [if_neg h, ← Nat.log2_lt h]; exact Nat.succ_le_iff
theorem lt_blen (v : Nat) : v < 2 ^ blen v := (blen_le_iff v _).1 (Nat.le_refl _)
theorem or_lt_iff (a b w : Nat) : a ||| b < 2 ^ w ↔ a < 2 ^ w ∧ b < 2 ^ w := by
  constructor
  · intro h
    exact ⟨Nat.lt_of_le_of_lt Nat.left_le_or h, Nat.lt_of_le_of_lt Nat.right_le_or h⟩
  · rintro ⟨h1, h2⟩
    exact Nat.or_lt_two_pow h1 h2
theorem blen_or (a b : Nat) : blen (a ||| b) = max (blen a) (blen b) := by
  apply Nat.le_antisymm
  · rw [blen_le_iff, or_lt_iff, ← blen_le_iff, ← blen_le_iff]; omega
  · have h := (blen_le_iff (a ||| b) _).1 (Nat.le_refl _)
    rw [or_lt_iff, ← blen_le_iff, ← blen_le_iff] at h
    omega
/-- The width of a sequence. -/
def widthL : List Nat → Nat
  | [] => 0
  | v :: l => max (blen v) (widthL l)
theorem widthL_le_iff (w : Nat) : ∀ l : List Nat, widthL l ≤ w ↔ ∀ v ∈ l, v < 2 ^ w
  | [] => by simp [widthL]
  | v :: l => by simp only [widthL, Nat.max_le, blen_le_iff, widthL_le_iff w l, List.mem_cons, forall_eq_or_imp]
theorem lt_widthL (l : List Nat) : ∀ v ∈ l, v < 2 ^ widthL l := (widthL_le_iff _ l).1 (Nat.le_refl _)
theorem widthL_append (l m : List Nat) : widthL (l ++ m) = max (widthL l) (widthL m) := by
  induction l with
  | nil => simp [widthL]
  | cons v l ih => simp only [List.cons_append, widthL, ih]; omega
theorem widthL_snoc (l : List Nat) (v : Nat) : widthL (l ++ [v]) = max (widthL l) (blen v) := by
  rw [widthL_append]; simp [widthL]
def orL : List Nat → Nat
  | [] => 0
  | v :: l => v ||| orL l
theorem blen_orL : ∀ l : List Nat, blen (orL l) = widthL l
  | [] => by simp [orL, widthL, blen]
  | v :: l => by simp only [orL, widthL, blen_or, blen_orL l]
theorem orL_append (l m : List Nat) : orL (l ++ m) = orL l ||| orL m := by
  induction l with
  | nil => simp [orL]
  | cons v l ih => simp only [List.cons_append, orL, ih, Nat.or_assoc]
theorem orL_snoc (l : List Nat) (v : Nat) : orL (l ++ [v]) = orL l ||| v := by
  rw [orL_append]; simp [orL]
theorem widthL_le_64 (l : List Nat) (h : ∀ v ∈ l, v < 2 ^ 64) : widthL l ≤ 64 := (widthL_le_iff 64 l).2 h
theorem widthL_top (l : List Nat) (h : widthL l ≠ 0) : ∃ v ∈ l, 2 ^ (widthL l - 1) ≤ v := by
  apply Classical.byContradiction
  intro hn
  have h1 : widthL l ≤ widthL l - 1 := (widthL_le_iff _ l).2 fun v hv => by
    apply Classical.byContradiction
    intro hc
    exact hn ⟨v, hv, by omega⟩
  omega

/-- The bytes of a number, the lowest one first. -/
def bytesN (N c : Nat) : List Nat := (List.range c).map fun i => N / 2 ^ (8 * i) % 256
theorem bytesN_length (N c : Nat) : (bytesN N c).length = c := by simp [bytesN]
theorem bytesN_succ (N c : Nat) : bytesN N (c + 1) = bytesN N c ++ [N / 2 ^ (8 * c) % 256] := by simp [bytesN, List.range_succ]
theorem bytesN_lt (N c : Nat) : ∀ b ∈ bytesN N c, b < 256 := by
  intro b hb
  simp only [bytesN, List.mem_map] at hb
  obtain ⟨i, _, rfl⟩ := hb
  exact Nat.mod_lt _ (by decide)
def hdr (n w : Nat) : List Nat := [n % 256, n / 256 % 256, n / 65536 % 256, n / 16777216 % 256, w % 256]
/-- The code of a sequence. -/
def code (l : List Nat) : List Nat := hdr l.length (widthL l) ++ bytesN (packN (widthL l) l) ((l.length * widthL l + 7) / 8)
theorem code_length (l : List Nat) : (code l).length = 5 + (l.length * widthL l + 7) / 8 := by
  simp [code, hdr, bytesN_length]; omega
/-- The numbers of a big number. -/
def unpack (w n N : Nat) : List Nat := (List.range n).map fun i => N / 2 ^ (w * i) % 2 ^ w
theorem unpack_length (w n N : Nat) : (unpack w n N).length = n := by simp [unpack]
theorem unpack_succ (w n N : Nat) : unpack w (n + 1) N = unpack w n N ++ [N / 2 ^ (w * n) % 2 ^ w] := by simp [unpack, List.range_succ]
theorem unpack_pack (w : Nat) (l : List Nat) (h : ∀ v ∈ l, v < 2 ^ w) : unpack w l.length (packN w l) = l := by
  apply List.ext_getElem
  · simp [unpack]
  · intro i h1 h2
    simp only [unpack, List.getElem_map, List.getElem_range]
    exact packN_digit w l i h h2
theorem packN_bytesN (c : Nat) : ∀ N, N < 2 ^ (8 * c) → packN 8 (bytesN N c) = N := by
  induction c with
  | zero => intro N h; simp at h; subst h; simp [bytesN, packN]
  | succ c ih =>
    intro N h
    rw [bytesN_succ, packN_append, bytesN_length]
    have h1 : bytesN N c = bytesN (N % 2 ^ (8 * c)) c := by
      apply List.ext_getElem
      · simp [bytesN]
      · intro i h1 h2
        simp only [bytesN_length] at h1
        simp only [bytesN, List.getElem_map, List.getElem_range]
        apply Nat.eq_of_testBit_eq
        intro j
        rw [show (256 : Nat) = 2 ^ 8 from rfl, Nat.testBit_mod_two_pow, Nat.testBit_mod_two_pow, Nat.testBit_div_two_pow, Nat.testBit_div_two_pow, Nat.testBit_mod_two_pow]
        by_cases hj : j < 8
        · have : j + 8 * i < 8 * c := by omega
          simp [hj, this]
        · simp [hj]
    rw [h1, ih _ (Nat.mod_lt _ (Nat.two_pow_pos _))]
    have h2 : N / 2 ^ (8 * c) < 256 := by
      rw [Nat.div_lt_iff_lt_mul (Nat.two_pow_pos _)]
      have : 2 ^ (8 * (c + 1)) = 256 * 2 ^ (8 * c) := by rw [Nat.mul_add, Nat.pow_add]; omega
      omega
    rw [Nat.mod_eq_of_lt h2]
    have := Nat.div_add_mod N (2 ^ (8 * c))
    omega
def num4 (b : List Nat) : Nat := b.getD 0 0 + b.getD 1 0 * 256 + b.getD 2 0 * 65536 + b.getD 3 0 * 16777216
/-- What Decode returns. -/
def decodeL (b : List Nat) : List Nat := unpack (b.getD 4 0) (num4 b) (packN 8 (b.drop 5))
def decodable (b : List Nat) : Bool :=
  decide (5 ≤ b.length) && decide (num4 b ≤ 1048576) && decide (b.getD 4 0 ≤ 64) && decide (b.length = 5 + (num4 b * b.getD 4 0 + 7) / 8) && decide (code (decodeL b) = b)

theorem num4_code (l : List Nat) (h : l.length < 4294967296) : num4 (code l) = l.length := by
  simp [num4, code, hdr]; omega
theorem width_code (l : List Nat) (h : widthL l ≤ 64) : (code l).getD 4 0 = widthL l := by
  simp [code, hdr]; omega
theorem decodeL_code (l : List Nat) (hl : l.length < 4294967296) (hw : widthL l ≤ 64) : decodeL (code l) = l := by
  unfold decodeL
  rw [num4_code l hl, width_code l hw]
  have e : (code l).drop 5 = bytesN (packN (widthL l) l) ((l.length * widthL l + 7) / 8) := by simp [code, hdr]
  rw [e, packN_bytesN, unpack_pack _ _ (lt_widthL l)]
  refine Nat.lt_of_lt_of_le (packN_lt _ l (lt_widthL l)) (Nat.pow_le_pow_right (by decide) ?_)
  rw [Nat.mul_comm (widthL l)]
  omega
theorem decodable_code (l : List Nat) (hl : l.length ≤ 1048576) (hw : widthL l ≤ 64) : decodable (code l) = true := by
  unfold decodable
  rw [decodeL_code l (by omega) hw, num4_code l (by omega), width_code l hw, code_length]
  simp [hl, hw]
end Go.Proofs.Ytpnkjfjkeoleaaa.HK
