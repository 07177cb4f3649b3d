/- bitvec: number; the bytes of a code. -/
import Derived.Test.YtofeemmmdbdjdaaBvRef3
set_option linter.unusedVariables false
namespace Go.Proofs.Ytofeemmmdbdjdaa.HK

theorem packN_app (w : Nat) (b : List Nat) : ∀ a : List Nat, packN w (a ++ b) = packN w a + 2 ^ (w * a.length) * packN w b
  | [] => by simp [packN]
  | x :: a => by
    simp only [List.cons_append, packN, packN_app w b a, List.length_cons, Nat.mul_add, Nat.mul_one, Nat.pow_add]
    rw [Nat.mul_comm (2 ^ (w * a.length)) (2 ^ w), Nat.mul_assoc]
    omega
/-- A word of the number that bytes make: eight of the bytes. -/
theorem word_pack (l : List Nat) (hl : ∀ v ∈ l, v < 256) (k : Nat) (hk : 8 * k + 8 ≤ l.length) : word (packN 8 l) k = packN 8 ((l.drop (8 * k)).take 8) := by
  have e1 : l = l.take (8 * k) ++ ((l.drop (8 * k)).take 8 ++ (l.drop (8 * k)).drop 8) := by rw [List.take_append_drop, List.take_append_drop]
  have ha : packN 8 (l.take (8 * k)) < 2 ^ (64 * k) := by
    have := packN_lt 8 (l.take (8 * k)) (fun v hv => hl v (List.mem_of_mem_take hv))
    rwa [List.length_take, Nat.min_eq_left (by omega), ← Nat.mul_assoc] at this
  have hb : packN 8 ((l.drop (8 * k)).take 8) < 2 ^ 64 := by
    have := packN_lt 8 ((l.drop (8 * k)).take 8) (fun v hv => hl v (List.mem_of_mem_drop (List.mem_of_mem_take hv)))
    rwa [List.length_take, List.length_drop, Nat.min_eq_left (by omega)] at this
  conv => lhs; rw [e1]
  unfold word
  rw [packN_app, packN_app, List.length_take, Nat.min_eq_left (by omega), ← Nat.mul_assoc, Nat.add_mul_div_left _ _ (Nat.two_pow_pos _), Nat.div_eq_of_lt ha, Nat.zero_add, List.length_take, List.length_drop, Nat.min_eq_left (by omega), Nat.add_mul_mod_self_left, Nat.mod_eq_of_lt hb]
end Go.Proofs.Ytofeemmmdbdjdaa.HK
namespace Go.Proofs.Ytofeemmmdbdjdaa.B
open Go.RowKit HK

theorem bytes_word (N m : Nat) : ∀ j, j ≤ 8 → bytesN N (8 * m + j) = bytesN N (8 * m) ++ bytesN (word N m) j
  | 0, _ => by simp [bytesN]
  | j + 1, h => by
    rw [← Nat.add_assoc, bytesN_succ, bytes_word N m j (by omega), bytesN_succ, List.append_assoc]
    congr 3
    have := word_byte N (8 * m + j)
    rw [show (8 * m + j) / 8 = m by omega, show (8 * m + j) % 8 = j by omega, Nat.mul_comm j 8] at this
    exact this.symm
theorem putL_words (N : Nat) : ∀ m, putL 8 (wordsN N m) = bytesN N (8 * m)
  | 0 => by simp [putL, wordsN, bytesN]
  | m + 1 => by rw [wordsN_snoc, putL_snoc, putL_words N m, Nat.mul_succ, bytes_word N m 8 (Nat.le_refl _)]
theorem bcode_take4 (n N : Nat) : (bcode n N).take 4 = bytesN n 4 := by
  unfold bcode bhead
  rw [putL_one, List.append_assoc, List.take_left' (bytesN_length n 4)]
theorem bcode_drop4 (n N : Nat) : ((bcode n N).drop 4).take (8 * ((n + 63) / 64)) = bytesN N (8 * ((n + 63) / 64)) := by
  unfold bcode bhead
  rw [putL_one, List.append_assoc, List.drop_left' (bytesN_length n 4), putL_words, List.take_left' (bytesN_length _ _)]
/-- What bytes say, if they are a code. -/
def num4b (bl : List Nat) : Nat := packN 8 (bl.take 4)
def bitsb (bl : List Nat) : Nat := packN 8 ((bl.drop 4).take (8 * ((num4b bl + 63) / 64)))
theorem num4b_code (n N : Nat) (hn : n ≤ 1048576) : num4b (bcode n N) = n := by
  unfold num4b
  rw [bcode_take4, packN_bytesN 4 n (by omega)]
theorem bitsb_code (n N : Nat) (hn : n ≤ 1048576) (hN : N < 2 ^ n) : bitsb (bcode n N) = N := by
  unfold bitsb
  rw [num4b_code n N hn, bcode_drop4, packN_bytesN]
  exact Nat.lt_of_lt_of_le hN (Nat.pow_le_pow_right (by decide) (by omega))
/-- Bytes are the code of a vector just if they are the code of what they say. -/
def isCode (bl : List Nat) : Prop := num4b bl ≤ 1048576 ∧ bitsb bl < 2 ^ num4b bl ∧ bcode (num4b bl) (bitsb bl) = bl
theorem isCode_code (n N : Nat) (hn : n ≤ 1048576) (hN : N < 2 ^ n) : isCode (bcode n N) := by
  unfold isCode
  rw [num4b_code n N hn, bitsb_code n N hn hN]
  exact ⟨hn, hN, rfl⟩
theorem isCode_len {bl : List Nat} (h : isCode bl) : 4 + 8 * ((num4b bl + 63) / 64) ≤ bl.length := by
  have := congrArg List.length h.2.2
  rw [bcode_len] at this
  omega

theorem or_val (x v s : Nat) (hx : x < 2 ^ s) (hv : v < 256) (hs : s + 8 ≤ 64) : bits .or .u64 (x : Int) (IntKind.u64.wrap ((v : Int) * 2 ^ s)) = ((x + 2 ^ s * v : Nat) : Int) := by
  have h1 : 2 ^ s * v < 2 ^ 64 := by
    have h2 : 2 ^ s * v < 2 ^ s * 256 := (Nat.mul_lt_mul_left (Nat.two_pow_pos s)).2 hv
    have h3 : 2 ^ s * 2 ^ 8 ≤ 2 ^ 64 := by rw [← Nat.pow_add]; exact Nat.pow_le_pow_right (by decide) hs
    omega
  have e : IntKind.u64.wrap ((v : Int) * 2 ^ s) = ((v * 2 ^ s : Nat) : Int) := by
    rw [IntKind.wrap_u64]
    have : ((v : Int) * 2 ^ s) = ((v * 2 ^ s : Nat) : Int) := by simp
    rw [this]
    rw [Nat.mul_comm] at h1
    omega
  have hx64 : x < 2 ^ 64 := Nat.lt_of_lt_of_le hx (Nat.pow_le_pow_right (by decide) (by omega))
  rw [e, u64_or_nat _ _ hx64 (by rw [Nat.mul_comm]; exact h1), add_shift_or x v s hx]
theorem pack_take_lt (l : List Nat) (hl : ∀ v ∈ l, v < 256) (k : Nat) : packN 8 (l.take k) < 2 ^ (8 * k) :=
  Nat.lt_of_lt_of_le (packN_lt 8 _ (fun v hv => hl v (List.mem_of_mem_take hv))) (Nat.pow_le_pow_right (by decide) (by simp; omega))
theorem at_u8 {l : List Nat} {k : Nat} {u : Value} (h : (l.map u8v)[k]? = some u) : ∃ v, l[k]? = some v ∧ u = .int .u8 (v : Int) := by
  rw [List.getElem?_map] at h
  obtain ⟨v, hv, rfl⟩ := Option.map_eq_some_iff.1 h
  exact ⟨v, hv, rfl⟩

set_option maxHeartbeats 1000000 in
theorem bnum_any (w : World) (B : Nat) (A : Option Addr) (n c : Nat) (l : List Nat) (hn : n ≤ 8) (hl : ∀ v ∈ l, v < 256) (hs : Sl w B A n (l.map u8v)) :
    Calls Try.prog 32 #[.slice A n c] w fun e w' => e = .returned (.int .u64 (packN 8 l : Nat)) ∧ w = w' := by
  have hlen : Hid (l.length = n) := Lib.hid (by have := hs.1; simpa using this)
  have HL := Lib.hid hl; clear hl
  have HS := Lib.hid hs; clear hs
  go_enter Try.func32, Try.ntmps32
  go_wp2
  go_loop [3, 8] (fun x i => ∃ k z : Nat, k ≤ n ∧ i = .int .i64 k ∧ x = .int .u64 (z : Int) ∧ Hid (z = packN 8 (l.take k))) (fun _ i => n - (intOf i).toNat)
  case atStart => exact ⟨0, 0, Nat.zero_le _, rfl, rfl, Lib.hid (by simp [packN])⟩
  case round =>
    obtain ⟨k, z, hk, rfl, rfl, HZ⟩ := hrel
    by_cases hlt : k < n
    · obtain ⟨b, off, u, rfl, hb, hu, hc⟩ := HS.out.at_ hlt
      obtain ⟨v, hv, rfl⟩ := at_u8 hu
      have hv8 : v < 256 := HL.out v (List.mem_of_getElem? hv)
      have HO := Lib.hid (or_val z v (8 * k) (by rw [HZ.out]; exact pack_take_lt l HL.out k) hv8 (by omega))
      have HN : Hid (z + 2 ^ (8 * k) * v = packN 8 (l.take (k + 1))) := Lib.hid (by rw [take_snoc_b l k v hv, packN_append, List.length_take, hlen.out, Nat.min_eq_left (by omega), HZ.out])
      clear hu hv
      go_wp2
      go_round
      case rel => exact ⟨k + 1, z + 2 ^ (8 * k) * v, by omega, by go_num, by rw [← HO.out], HN⟩
      case measure => simp [intOf]; omega
    · obtain rfl : k = n := by omega
      have HF : Hid (z = packN 8 l) := Lib.hid (by rw [HZ.out, List.take_of_length_le (by rw [hlen.out]; exact Nat.le_refl _)])
      go_wp2
      go_ret
      rw [← HF.out]
      exact ⟨rfl, rfl⟩
end Go.Proofs.Ytofeemmmdbdjdaa.B
