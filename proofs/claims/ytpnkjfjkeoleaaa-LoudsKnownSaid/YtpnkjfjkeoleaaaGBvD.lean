/- GBvD: several texts in one: bitvec: number; the bytes of a code. bitvec: Decode. Conditions: those each theorem names. -/
import Derived.Test.YtpnkjfjkeoleaaaGBvR
import Derived.Deep.AppendLies
import Derived.Deep.RegionLaw
import Derived.Deep.RegionHeld3
/-! bitvec: number; the bytes of a code. -/
set_option linter.unusedVariables false
set_option maxRecDepth 100000
namespace Go.Proofs.Ytpnkjfjkeoleaaa.HK

theorem packN_app (w : Nat) (b : List Nat) : ∀ a : List Nat, packN w (a ++ b) = packN w a + 2 ^ (w * a.length) * packN w b
  | [] => by simp [packN]
  | x :: a => by
    simp only [List.cons_append, packN, packN_app w b a, List.length_cons, Nat.mul_add, Nat.mul_one, Nat.pow_add]
    rw [Nat.mul_comm (2 ^ (w * a.length)) (2 ^ w), Nat.mul_assoc]
    omega
/-- A word of the number that bytes make: eight of the bytes. -/
theorem word_pack (l : List Nat) (hl : ∀ v ∈ l, v < 256) (k : Nat) (hk : 8 * k + 8 ≤ l.length) : word (packN 8 l) k = packN 8 ((l.drop (8 * k)).take 8) := by
  have e1 : l = l.take (8 * k) ++ ((l.drop (8 * k)).take 8 ++ (l.drop (8 * k)).drop 8) := by rw [List.take_append_drop, List.take_append_drop]
  have ha : packN 8 (l.take (8 * k)) < 2 ^ (64 * k) := by
    have := packN_lt 8 (l.take (8 * k)) (fun v hv => hl v (List.mem_of_mem_take hv))
    rwa [List.length_take, Nat.min_eq_left (by omega), ← Nat.mul_assoc] at this
  have hb : packN 8 ((l.drop (8 * k)).take 8) < 2 ^ 64 := by
    have := packN_lt 8 ((l.drop (8 * k)).take 8) (fun v hv => hl v (List.mem_of_mem_drop (List.mem_of_mem_take hv)))
    rwa [List.length_take, List.length_drop, Nat.min_eq_left (by omega)] at this
  conv => lhs; rw [e1]
  unfold word
  rw [packN_app, packN_app, List.length_take, Nat.min_eq_left (by omega), ← Nat.mul_assoc, Nat.add_mul_div_left _ _ (Nat.two_pow_pos _), Nat.div_eq_of_lt ha, Nat.zero_add, List.length_take, List.length_drop, Nat.min_eq_left (by omega), Nat.add_mul_mod_self_left, Nat.mod_eq_of_lt hb]
end Go.Proofs.Ytpnkjfjkeoleaaa.HK
namespace Go.Proofs.Ytpnkjfjkeoleaaa.B
open Go.RowKit HK

theorem bytes_word (N m : Nat) : ∀ j, j ≤ 8 → bytesN N (8 * m + j) = bytesN N (8 * m) ++ bytesN (word N m) j
  | 0, _ => by simp [bytesN]
  | j + 1, h => by
    rw [← Nat.add_assoc, bytesN_succ, bytes_word N m j (by omega), bytesN_succ, List.append_assoc]
    congr 3
    have := word_byte N (8 * m + j)
    rw [show (8 * m + j) / 8 = m by omega, show (8 * m + j) % 8 = j by omega, Nat.mul_comm j 8] at this
    exact this.symm
theorem putL_words (N : Nat) : ∀ m, putL 8 (wordsN N m) = bytesN N (8 * m)
  | 0 => by simp [putL, wordsN, bytesN]
  | m + 1 => by rw [wordsN_snoc, putL_snoc, putL_words N m, Nat.mul_succ, bytes_word N m 8 (Nat.le_refl _)]
theorem bcode_take4 (n N : Nat) : (bcode n N).take 4 = bytesN n 4 := by
  unfold bcode bhead
  rw [putL_one, List.append_assoc, List.take_left' (bytesN_length n 4)]
theorem bcode_drop4 (n N : Nat) : ((bcode n N).drop 4).take (8 * ((n + 63) / 64)) = bytesN N (8 * ((n + 63) / 64)) := by
  unfold bcode bhead
  rw [putL_one, List.append_assoc, List.drop_left' (bytesN_length n 4), putL_words, List.take_left' (bytesN_length _ _)]
/-- What bytes say, if they are a code. -/
def num4b (bl : List Nat) : Nat := packN 8 (bl.take 4)
def bitsb (bl : List Nat) : Nat := packN 8 ((bl.drop 4).take (8 * ((num4b bl + 63) / 64)))
theorem num4b_code (n N : Nat) (hn : n ≤ 1048576) : num4b (bcode n N) = n := by
  unfold num4b
  rw [bcode_take4, packN_bytesN 4 n (by omega)]
theorem bitsb_code (n N : Nat) (hn : n ≤ 1048576) (hN : N < 2 ^ n) : bitsb (bcode n N) = N := by
  unfold bitsb
  rw [num4b_code n N hn, bcode_drop4, packN_bytesN]
  exact Nat.lt_of_lt_of_le hN (Nat.pow_le_pow_right (by decide) (by omega))
/-- Bytes are the code of a vector just if they are the code of what they say. -/
def isCode (bl : List Nat) : Prop := num4b bl ≤ 1048576 ∧ bitsb bl < 2 ^ num4b bl ∧ bcode (num4b bl) (bitsb bl) = bl
theorem isCode_code (n N : Nat) (hn : n ≤ 1048576) (hN : N < 2 ^ n) : isCode (bcode n N) := by
  unfold isCode
  rw [num4b_code n N hn, bitsb_code n N hn hN]
  exact ⟨hn, hN, rfl⟩
theorem isCode_len {bl : List Nat} (h : isCode bl) : 4 + 8 * ((num4b bl + 63) / 64) ≤ bl.length := by
  have := congrArg List.length h.2.2
  rw [bcode_len] at this
  omega

theorem or_val (x v s : Nat) (hx : x < 2 ^ s) (hv : v < 256) (hs : s + 8 ≤ 64) : bits .or .u64 (x : Int) (IntKind.u64.wrap ((v : Int) * 2 ^ s)) = ((x + 2 ^ s * v : Nat) : Int) := by
  have h1 : 2 ^ s * v < 2 ^ 64 := by
    have h2 : 2 ^ s * v < 2 ^ s * 256 := (Nat.mul_lt_mul_left (Nat.two_pow_pos s)).2 hv
    have h3 : 2 ^ s * 2 ^ 8 ≤ 2 ^ 64 := by rw [← Nat.pow_add]; exact Nat.pow_le_pow_right (by decide) hs
    omega
  have e : IntKind.u64.wrap ((v : Int) * 2 ^ s) = ((v * 2 ^ s : Nat) : Int) := by
    rw [IntKind.wrap_u64]
    have : ((v : Int) * 2 ^ s) = ((v * 2 ^ s : Nat) : Int) := by simp
    rw [this]
    rw [Nat.mul_comm] at h1
    omega
  have hx64 : x < 2 ^ 64 := Nat.lt_of_lt_of_le hx (Nat.pow_le_pow_right (by decide) (by omega))
  rw [e, u64_or_nat _ _ hx64 (by rw [Nat.mul_comm]; exact h1), add_shift_or x v s hx]
theorem pack_take_lt (l : List Nat) (hl : ∀ v ∈ l, v < 256) (k : Nat) : packN 8 (l.take k) < 2 ^ (8 * k) :=
  Nat.lt_of_lt_of_le (packN_lt 8 _ (fun v hv => hl v (List.mem_of_mem_take hv))) (Nat.pow_le_pow_right (by decide) (by simp; omega))
theorem at_u8 {l : List Nat} {k : Nat} {u : Value} (h : (l.map u8v)[k]? = some u) : ∃ v, l[k]? = some v ∧ u = .int .u8 (v : Int) := by
  rw [List.getElem?_map] at h
  obtain ⟨v, hv, rfl⟩ := Option.map_eq_some_iff.1 h
  exact ⟨v, hv, rfl⟩

set_option maxHeartbeats 1000000 in
theorem bnum_any (w : World) (B : Nat) (A : Option Addr) (n c : Nat) (l : List Nat) (hn : n ≤ 8) (hl : ∀ v ∈ l, v < 256) (hs : Sl w B A n (l.map u8v)) :
    Calls Try.prog 67 #[.slice A n c] w fun e w' => e = .returned (.int .u64 (packN 8 l : Nat)) ∧ w = w' := by
  have hlen : Hid (l.length = n) := Lib.hid (by have := hs.1; simpa using this)
  have HL := Lib.hid hl; clear hl
  have HS := Lib.hid hs; clear hs
  go_enter Try.func67, Try.ntmps67
  go_wp2
  go_loop [3, 8] (fun x i => ∃ k z : Nat, k ≤ n ∧ i = .int .i64 k ∧ x = .int .u64 (z : Int) ∧ Hid (z = packN 8 (l.take k))) (fun _ i => n - (intOf i).toNat)
  case atStart => exact ⟨0, 0, Nat.zero_le _, rfl, rfl, Lib.hid (by simp [packN])⟩
  case round =>
    obtain ⟨k, z, hk, rfl, rfl, HZ⟩ := hrel
    by_cases hlt : k < n
    · obtain ⟨b, off, u, rfl, hb, hu, hc⟩ := HS.out.at_ hlt
      obtain ⟨v, hv, rfl⟩ := at_u8 hu
      have hv8 : v < 256 := HL.out v (List.mem_of_getElem? hv)
      have HO := Lib.hid (or_val z v (8 * k) (by rw [HZ.out]; exact pack_take_lt l HL.out k) hv8 (by omega))
      have HN : Hid (z + 2 ^ (8 * k) * v = packN 8 (l.take (k + 1))) := Lib.hid (by rw [take_snoc_b l k v hv, packN_append, List.length_take, hlen.out, Nat.min_eq_left (by omega), HZ.out])
      clear hu hv
      go_wp2
      go_round
      case rel => exact ⟨k + 1, z + 2 ^ (8 * k) * v, by omega, by go_num, by rw [← HO.out], HN⟩
      case measure => simp [intOf]; omega
    · obtain rfl : k = n := by omega
      have HF : Hid (z = packN 8 l) := Lib.hid (by rw [HZ.out, List.take_of_length_le (by rw [hlen.out]; exact Nat.le_refl _)])
      go_wp2
      go_ret
      rw [← HF.out]
      exact ⟨rfl, rfl⟩
end Go.Proofs.Ytpnkjfjkeoleaaa.B

/-! bitvec: Decode. -/
set_option linter.unusedVariables false
namespace Go.Proofs.Ytpnkjfjkeoleaaa.B
open Go.RowKit HK

theorem bequal_any (w : World) (A A' : Option Addr) (n c n' c' B : Nat) (la lb : List Nat) (h1 : ∀ v ∈ la, v < 256) (h2 : ∀ v ∈ lb, v < 256) (ha : Sl w B A n (la.map u8v)) (hb : Sl w B A' n' (lb.map u8v)) :
    Calls Try.prog 69 #[.slice A n c, .slice A' n' c'] w fun e w' => e = .returned (.bool (decide (la = lb))) ∧ w = w' := by
  have e1 := conv_sl (P := Try.prog) 26 5 9 Try.underlying26 Try.underlying5 Try.underlying9 ha c
  have e2 := conv_sl (P := Try.prog) 26 5 9 Try.underlying26 Try.underlying5 Try.underlying9 hb c'
  have HE := Lib.hid (bs_beq la lb h1 h2)
  clear ha hb h1 h2
  go_enter Try.func69, Try.ntmps69
  go_wp2
  go_ret
  refine ⟨?_, rfl⟩
  rw [← HE.out]
  rfl

theorem Sl.sub {w : World} {B b off n : Nat} {xs : List Value} (h : Sl w B (some ⟨b, off, none⟩) n xs) (lo m : Nat) (hm : lo + m ≤ n) : Sl w B (some ⟨b, off + lo, none⟩) m ((xs.drop lo).take m) := by
  have hl := h.1
  refine ⟨by simp; omega, fun h0 => ?_⟩
  obtain ⟨b', off', e, hb, hc⟩ := h.2 (by omega)
  injection e with e
  injection e with e1 e2
  subst e1 e2
  refine ⟨b, off + lo, rfl, hb, fun j u hu => ?_⟩
  have hj : j < m := by
    rcases Nat.lt_or_ge j m with h1 | h1
    · exact h1
    · rw [List.getElem?_eq_none (by simp; omega)] at hu; cases hu
  rw [List.getElem?_take_of_lt hj, List.getElem?_drop] at hu
  have := hc _ _ hu
  rwa [← Nat.add_assoc] at this
theorem Sl.subU8 {w : World} {B b off n : Nat} {l : List Nat} (h : Sl w B (some ⟨b, off, none⟩) n (l.map u8v)) (lo m : Nat) (hm : lo + m ≤ n) : Sl w B (some ⟨b, off + lo, none⟩) m (((l.drop lo).take m).map u8v) := by
  have := Sl.sub h lo m hm
  rwa [← List.map_drop, ← List.map_take] at this

def BDecPost (w : World) (bl : List Nat) (e : Ending) (w' : World) : Prop :=
  Below w.heap.size w w' ∧ ((isCode bl ∧ ∃ b, e = .returned (.tuple #[.pointer (some ⟨b, 0, none⟩), .int .i64 0]) ∧ Bv w' w.heap.size w'.heap.size b (num4b bl) (bitsb bl)) ∨ (¬ isCode bl ∧ e = .returned (.tuple #[.pointer none, .int .i64 5])))

set_option maxHeartbeats 1000000 in
theorem bdec_short (w : World) (A : Option Addr) (n c : Nat) (bl : List Nat) (hl : bl.length = n) (hn : n < 4) :
    Calls Try.prog 42 #[.slice A n c] w (BDecPost w bl) := by
  have hnb : decide ((n : Int) < 4) = true := by simp; omega
  have hno : Hid (¬ isCode bl) := Lib.hid (fun h => by have := isCode_len h; omega)
  clear hl
  go_enter Try.func42, Try.ntmps42
  go_wp2
  go_ret2
  exact ⟨Below.refl _ _, .inr ⟨hno.out, rfl⟩⟩

set_option maxRecDepth 100000 in
set_option maxHeartbeats 1000000 in
theorem bdec_bad1 (w : World) (b off n c : Nat) (bl : List Nat) (hbl : ∀ v ∈ bl, v < 256) (hs : Sl w w.heap.size (some ⟨b, off, none⟩) n (bl.map u8v)) (hn : 4 ≤ n) (hnc : n ≤ c) (hcm : c ≤ 9223372036854775807) (hbad : 1048576 < num4b bl) :
    Calls Try.prog 42 #[.slice (some ⟨b, off, none⟩) n c] w (BDecPost w bl) := by
  have hnb : decide ((n : Int) < 4) = false := by simp; omega
  have hno : Hid (¬ isCode bl) := Lib.hid (fun h => by have := h.1; omega)
  have hcall := bnum_any w w.heap.size (some ⟨b, off, none⟩) 4 c (bl.take 4) (by omega) (fun v hv => hbl v (List.mem_of_mem_take hv)) (by have := Sl.subU8 hs 0 4 (by omega); simpa using this)
  obtain ⟨N4, hN4⟩ : ∃ N4, packN 8 (bl.take 4) = N4 := ⟨_, rfl⟩
  unfold num4b at hbad
  rw [hN4] at hcall hbad
  have HC := Lib.hid hcall
  have hgt : decide ((1048576 : Int) < (N4 : Int)) = true := by simp; omega
  have hn4 : (4 : Int) ≤ (n : Int) := by omega
  have hc4 : (4 : Int) ≤ (c : Int) := by omega
  clear hcall hbl hs hN4 hbad
  go_enter Try.func42, Try.ntmps42
  go_wp2_with fail
  refine HC.out.mono ?_
  rintro e w' ⟨rfl, rfl⟩
  go_wp2
  go_ret2
  exact ⟨Below.refl _ _, .inr ⟨hno.out, rfl⟩⟩

set_option maxRecDepth 100000 in
set_option maxHeartbeats 1000000 in
theorem bdec_bad2 (w : World) (b off n c : Nat) (bl : List Nat) (hbl : ∀ v ∈ bl, v < 256) (hs : Sl w w.heap.size (some ⟨b, off, none⟩) n (bl.map u8v)) (hn : 4 ≤ n) (hnc : n ≤ c) (hcm : c ≤ 9223372036854775807) (hok : num4b bl ≤ 1048576) (hbad : n < 4 + 8 * ((num4b bl + 63) / 64)) :
    Calls Try.prog 42 #[.slice (some ⟨b, off, none⟩) n c] w (BDecPost w bl) := by
  have hnb : decide ((n : Int) < 4) = false := by simp; omega
  have hno : Hid (¬ isCode bl) := Lib.hid (fun h => by have := isCode_len h; have := hs.1; simp at this; omega)
  have hcall := bnum_any w w.heap.size (some ⟨b, off, none⟩) 4 c (bl.take 4) (by omega) (fun v hv => hbl v (List.mem_of_mem_take hv)) (by have := Sl.subU8 hs 0 4 (by omega); simpa using this)
  obtain ⟨N4, hN4⟩ : ∃ N4, packN 8 (bl.take 4) = N4 := ⟨_, rfl⟩
  unfold num4b at hbad hok
  rw [hN4] at hcall hbad hok
  have HC := Lib.hid hcall
  have hgt : decide ((1048576 : Int) < (N4 : Int)) = false := by simp; omega
  have hwr : IntKind.i64.wrap (N4 : Int) = (N4 : Int) := IntWalk.i64_in _ (by omega)
  have hn4 : (4 : Int) ≤ (n : Int) := by omega
  have hc4 : (4 : Int) ≤ (c : Int) := by omega
  obtain ⟨M, hM⟩ : ∃ M : Nat, ((N4 : Int) + 63) / 64 = (M : Int) := ⟨(N4 + 63) / 64, by omega⟩
  have hMb : M ≤ 16384 := by omega
  have hlt : decide ((n : Int) < 4 + 8 * (M : Int)) = true := by simp; omega
  clear hcall hbl hs hN4 hbad
  go_enter Try.func42, Try.ntmps42
  go_wp2_with fail
  refine HC.out.mono ?_
  rintro e w' ⟨rfl, rfl⟩
  go_wp2_with fail
  refine HC.out.mono ?_
  rintro e w' ⟨rfl, rfl⟩
  go_wp2
  go_ret2
  exact ⟨(Below.refl _ _).alloc (Nat.le_refl _) _, .inr ⟨hno.out, rfl⟩⟩
end Go.Proofs.Ytpnkjfjkeoleaaa.B
