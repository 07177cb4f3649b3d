/- GBvR: several texts in one: bitvec: the reference's Rank, Select. bitvec: the reference's Same, Get; the law's bits(). bitvec: the reference's number, Encode. Conditions: those each theorem names. -/
import Derived.Test.YtpnkjfjkeoleaaaGBvB
/-! bitvec: the reference's Rank, Select. -/
set_option linter.unusedVariables false
set_option maxRecDepth 100000
namespace Go.Proofs.Ytpnkjfjkeoleaaa.B
open Go.RowKit HK

theorem bit_at (l : List Bool) (k : Nat) (v : Bool) (h : l[k]? = some v) : (bitsN l).testBit k = v := by rw [bitsN_bit, List.getD_eq_getElem?_getD, h]; rfl
theorem rk_at (l : List Bool) (b : Bool) (k : Nat) (v : Bool) (h : l[k]? = some v) : rk (bitsN l) b (k + 1) = rk (bitsN l) b k + (v == b).toNat := by rw [rk_step, bit_at l k v h]

def RSelPost (w : World) (N n : Nat) (bb : Bool) (k : Int) (e : Ending) (w' : World) : Prop := ∃ z, e = .returned (.int .i64 z) ∧ SelAt N n bb k z ∧ w = w'

end Go.Proofs.Ytpnkjfjkeoleaaa.B

/-! bitvec: the reference's Same, Get; the law's bits(). -/
set_option linter.unusedVariables false
namespace Go.Proofs.Ytpnkjfjkeoleaaa.B
open Go.RowKit HK

theorem eq_of_alls {α : Type} (la lb : List α) (h : la.length = lb.length) (hh : ∀ j, j < la.length → la[j]? = lb[j]?) : la = lb := by
  apply List.ext_getElem?
  intro j
  by_cases hj : j < la.length
  · exact hh j hj
  · rw [List.getElem?_eq_none (by omega), List.getElem?_eq_none (by omega)]

set_option maxHeartbeats 1000000 in
theorem rget_any (w : World) (B : Nat) (A : Option Addr) (n c : Nat) (l : List Bool) (i : Int) (hn : n ≤ 4611686018427387904) (hi : (Lit.int .i64 i).wf = true) (hs : Sl w B A n (l.map Value.bool)) :
    Calls Try.prog 83 #[.slice A n c, .int .i64 i] w fun e w' => e = .returned (.bool (getB (bitsN l) n i)) ∧ w = w' := by
  have hr64 := rg_i64 i hi
  have HS := Lib.hid hs; clear hs
  by_cases h0 : i < 0
  · have hb0 : decide (0 ≤ i) = false := by simp; omega
    have hg : getB (bitsN l) n i = false := by unfold getB; rw [hb0]; rfl
    rw [hg]
    go_enter Try.func83, Try.ntmps83
    go_wp2
    all_goals (go_ret; exact ⟨rfl, rfl⟩)
  · by_cases h1 : (n : Int) ≤ i
    · have hb0 : decide (0 ≤ i) = true := by simp; omega
      have hb1 : decide (i < (n : Int)) = false := by simp; omega
      have hg : getB (bitsN l) n i = false := by unfold getB; rw [hb0, hb1]; rfl
      rw [hg]
      go_enter Try.func83, Try.ntmps83
      go_wp2
      all_goals (go_ret; exact ⟨rfl, rfl⟩)
    · obtain ⟨j, rfl⟩ : ∃ j : Nat, i = (j : Int) := ⟨i.toNat, by omega⟩
      have hj : j < n := by omega
      have hb0 : decide ((0 : Int) ≤ (j : Int)) = true := by simp
      have hb1 : decide ((j : Int) < (n : Int)) = true := by simp; omega
      obtain ⟨b, off, u, rfl, hb, hu, hc⟩ := HS.out.at_ hj
      obtain ⟨v, hv, rfl⟩ := at_bool hu
      have hg : getB (bitsN l) n j = v := by unfold getB; rw [hb0, hb1]; simp [bit_at l j v hv]
      rw [hg]
      clear hu hv hg
      go_enter Try.func83, Try.ntmps83
      go_wp2
      all_goals (go_ret; exact ⟨rfl, rfl⟩)

/-- The bits of N. -/
def bitsL (N n : Nat) : List Bool := (List.range n).map N.testBit
theorem bitsL_len (N n : Nat) : (bitsL N n).length = n := by simp [bitsL]
theorem bitsL_snoc (N n : Nat) : bitsL N (n + 1) = bitsL N n ++ [N.testBit n] := by simp [bitsL, List.range_succ]
theorem bitsL_bits (l : List Bool) : bitsL (bitsN l) l.length = l := by
  apply List.ext_getElem?
  intro j
  unfold bitsL
  by_cases hj : j < l.length
  · rw [List.getElem?_map, List.getElem?_range hj, List.getElem?_eq_getElem hj, Option.map_some, bit_at l j l[j] (List.getElem?_eq_getElem hj)]
  · rw [List.getElem?_eq_none (by simp; omega), List.getElem?_eq_none (by omega)]
theorem one_bool {v : Bool} : ∀ u ∈ [Value.bool v], u.oneCell' = true := by
  intro u hu
  simp at hu
  subst hu
  rfl

end Go.Proofs.Ytpnkjfjkeoleaaa.B

/-! bitvec: the reference's number, Encode. -/
set_option linter.unusedVariables false
namespace Go.Proofs.Ytpnkjfjkeoleaaa.B
open Go.RowKit HK

theorem div_256 (x j : Nat) : x / 2 ^ (8 * j) / 256 = x / 2 ^ (8 * (j + 1)) := by
  rw [Nat.div_div_eq_div_mul, Nat.mul_add, Nat.pow_add]

theorem u64_quo (z : Nat) (h : z < 2 ^ 64) : IntKind.u64.wrap ((z : Int) / 256) = ((z / 256 : Nat) : Int) := by rw [IntKind.wrap_u64]; omega

set_option maxHeartbeats 1000000 in
theorem rnum_any (w : World) (base : Nat) (o : Value) (M : Nat) (pre : List Nat) (x many : Nat) (hbase : base ≤ w.heap.size) (hsz : many ≤ 8) (hM : M ≤ 1073741824) (hx : x < 2 ^ 64)
    (ho : w.ownsRow base 5 1 o M (pre.map u8v)) :
    Calls Try.prog 82 #[o, .int .u64 (x : Int), .int .i64 many] w fun e w' => ∃ v, e = .returned v ∧ PutInv w w' base v (M + many) (pre ++ bytesN x many) := by
  have HO := Lib.hid ho; clear ho
  have HX := Lib.hid hx; clear hx
  obtain ⟨i0, hi, hz0, hz1, hz2⟩ := info_parts infoU8
  go_enter Try.func82, Try.ntmps82
  go_wp2
  go_loopw [0, 1, 7] (fun o y i wr => ∃ j z : Nat, j ≤ many ∧ i = .int .i64 j ∧ y = .int .u64 (z : Int) ∧ Hid (z = x / 2 ^ (8 * j)) ∧ PutInv w wr base o (M + j) (pre ++ bytesN x j)) (fun _ _ i _ => many - (intOf i).toNat)
  case atStart => exact ⟨0, x, Nat.zero_le _, rfl, rfl, Lib.hid (by simp), by simpa [bytesN] using HO.out, Below.refl _ _⟩
  case round =>
    obtain ⟨j, z, hj, rfl, rfl, HZ, hown, hB⟩ := hrel
    by_cases hlt : j < many
    · have hBs := hB.size
      have HZB : Hid (z < 2 ^ 64) := Lib.hid (by rw [HZ.out]; exact Nat.lt_of_le_of_lt (Nat.div_le_self _ _) HX.out)
      have HBB := Lib.hid hB; clear hB
      have HOO := Lib.hid hown; clear hown
      go_wp2_with (at_builtin; refine wpList_append_own _ rfl _ _ 26 rfl base 5 i0 (.int .u8 0) 1 1 Try.underlying26 hi hz0 hz1 hz2 rfl (by decide) _ _ _ rfl (HOO.out.alloc _) ⟨wr.heap.size, 0, none⟩ 1 1 [_] rfl rfl (cell_one_new _ _ _) one_oneCell (by unfold maxLen; omega) (by omega) (by simp; omega) ?_; intro v' w1 hown1 hgrow1 _)
      have hB1 := bel_app HBB.out hbase HOO.out hgrow1
      have HO1 := Lib.hid hown1; clear hown1 hgrow1
      go_wp2
      go_roundw
      case rel =>
        refine ⟨j + 1, z / 256, by omega, by go_num, by rw [u64_quo z HZB.out], Lib.hid (by rw [HZ.out, div_256]), ?_, hB1⟩
        have h1 := HO1.out
        rw [bytesN_succ, ← List.append_assoc, List.map_append, ← HZ.out]
        exact h1
      case measure => simp [intOf]; omega
    · obtain rfl : j = many := by omega
      go_wp2
      go_ret
      exact ⟨_, rfl, hown, hB⟩

theorem wordsN_snoc (N m : Nat) : wordsN N (m + 1) = wordsN N m ++ [word N m] := by simp [wordsN, List.range_succ]
theorem getB_word (N n m c : Nat) (hN : N < 2 ^ n) (hc : c < 64) : getB N n ((64 * m + c : Nat) : Int) = (word N m).testBit c := by
  rw [word_bit, decide_eq_true hc, Bool.true_and]
  unfold getB
  by_cases h : 64 * m + c < n
  · rw [decide_eq_true (by omega : (0 : Int) ≤ ((64 * m + c : Nat) : Int)), decide_eq_true (by omega : ((64 * m + c : Nat) : Int) < (n : Int)), Int.toNat_natCast]; rfl
  · rw [decide_eq_false (by omega : ¬ ((64 * m + c : Nat) : Int) < (n : Int)), bit_high N n (64 * m + c) hN (by omega), Bool.and_false]; rfl
theorem half_bit (x c : Nat) : x / 2 ^ c = 2 * (x / 2 ^ (c + 1)) + (x.testBit c).toNat := by
  rw [Nat.toNat_testBit, Nat.pow_succ, ← Nat.div_div_eq_div_mul]
  omega
theorem half_lt (x c : Nat) (h : x < 2 ^ 64) : x / 2 ^ (c + 1) < 9223372036854775808 := by
  rw [Nat.div_lt_iff_lt_mul (Nat.two_pow_pos _), Nat.pow_succ]
  have := Nat.two_pow_pos c
  omega
theorem u64_dbl (z : Nat) (h : z < 9223372036854775808) : IntKind.u64.wrap (2 * (z : Int)) = ((2 * z : Nat) : Int) := by rw [IntKind.wrap_u64]; omega
theorem u64_dbl1 (z : Nat) (h : z < 9223372036854775808) : IntKind.u64.wrap ((2 * z : Nat) + 1 : Int) = ((2 * z + 1 : Nat) : Int) := by rw [IntKind.wrap_u64]; omega
theorem cnt_succ (N a : Nat) : cnt N (a + 1) = cnt N a + (N.testBit a).toNat := rfl

set_option maxHeartbeats 4000000 in
theorem rbenc_any (w : World) (A : Option Addr) (n c' : Nat) (l : List Bool) (hn : n ≤ 1048576) (hs : Sl w w.heap.size A n (l.map Value.bool)) :
    Calls Try.prog 60 #[.slice A n c'] w fun e w' => ∃ v, e = .returned v ∧ PutInv w w' w.heap.size v (4 + 8 * ((n + 63) / 64) + 4 * (((n + 63) / 64 + 7) / 8)) (bcode n (bitsN l)) := by
  have hlen : l.length = n := by have := hs.1; simpa using this
  have HN : Hid (bitsN l < 2 ^ n) := Lib.hid (by rw [← hlen]; exact bitsN_lt l)
  have HS := Lib.hid hs; clear hs hlen
  have hu : IntKind.u64.wrap (n : Int) = (n : Int) := wrap_u64_small n (by omega)
  obtain ⟨N, hNN⟩ : ∃ N, bitsN l = N := ⟨_, rfl⟩
  rw [hNN] at HN ⊢
  have HNN := Lib.hid hNN; clear hNN
  go_enter Try.func60, Try.ntmps60
  go_wp2_with fail
  refine (rnum_any w w.heap.size (.slice none 0 0) 0 [] n 4 (Nat.le_refl _) (by omega) (by omega) (by omega) (own_nil _ _)).mono ?_
  rintro e w1 ⟨v1, rfl, hP1⟩
  have HP1 := Lib.hid hP1; clear hP1 hu
  go_wp2
  go_loopw [3, 4] (fun o i wr => ∃ m x : Nat, x ≤ n + 63 ∧ Hid (x = 64 * m) ∧ i = .int .i64 x ∧ PutInv w wr w.heap.size o (4 + 8 * m) (putL 4 [n] ++ putL 8 (wordsN N m))) (fun _ i _ => n + 63 - (intOf i).toNat)
  case atStart => exact ⟨0, 0, by omega, Lib.hid rfl, rfl, by have h := HP1.out; rw [← putL_one, List.nil_append] at h; simpa [putL, wordsN] using h⟩
  case round =>
    obtain ⟨m, x, hm, HXM, rfl, hown, hB⟩ := hrel
    have hBs := hB.size
    have HBB := Lib.hid hB; clear hB
    have HOO := Lib.hid hown; clear hown
    by_cases hlt : x < n
    · obtain ⟨wo, rfl⟩ : ∃ wo : World, wo = wr := ⟨_, rfl⟩
      go_wp2
      go_loop [5, 6] (fun y k => ∃ (c z : Nat) (q : Int), c ≤ 64 ∧ q + 1 = (c : Int) ∧ k = .int .i64 q ∧ y = .int .u64 (z : Int) ∧ Hid (z = word N m / 2 ^ c)) (fun _ k => (intOf k + 1).toNat)
      case atStart => exact ⟨64, 0, 63, by omega, by omega, rfl, rfl, Lib.hid (by rw [Nat.div_eq_of_lt (word_lt _ _)])⟩
      case round =>
        obtain ⟨c, z, q, hc, hq, rfl, rfl, HZ⟩ := hrel
        by_cases hc0 : c = 0
        · subst hc0
          obtain rfl : q = -1 := by omega
          clear hq hc
          have HZ2 : Hid (z = word N m) := Lib.hid (by rw [HZ.out]; simp)
          clear HZ
          go_wp2_with fail
          refine (rnum_any wo w.heap.size u3 (4 + 8 * m) (putL 4 [n] ++ putL 8 (wordsN N m)) z 8 hBs (by omega) (by have := HXM.out; omega) (by rw [HZ2.out]; exact word_lt _ _) HOO.out).mono ?_
          rintro e w3 ⟨v3, rfl, hP3⟩
          have HP3 := Lib.hid hP3; clear hP3
          go_wp2
          go_roundw
          case rel =>
            refine ⟨m + 1, x + 64, by omega, Lib.hid (by rw [HXM.out]; omega), by go_num, ?_, HBB.out.trans HP3.out.2⟩
            have h := HP3.out.1
            rw [HZ2.out] at h
            rw [wordsN_snoc, putL_snoc, ← List.append_assoc]
            exact h
          case measure => simp [intOf]; omega
        · obtain ⟨d, rfl⟩ : ∃ d, c = d + 1 := ⟨c - 1, by omega⟩
          obtain rfl : q = (d : Int) := by omega
          clear hq hc0
          have hzl : z < 9223372036854775808 := by rw [HZ.out]; exact half_lt _ _ (word_lt _ _)
          have hd : d < 64 := by omega
          have hg := rget_any wo w.heap.size A n c' l ((x : Int) + (d : Int)) (by omega) (wf_i64 _ (by omega)) (HS.out.below HBB.out)
          have hgv : getB (bitsN l) n ((x : Int) + (d : Int)) = (word N m).testBit d := by
            rw [HNN.out, show (x : Int) + (d : Int) = ((64 * m + d : Nat) : Int) by rw [HXM.out]; omega, getB_word N n m d HN.out hd]
          rw [hgv] at hg
          clear hgv
          cases hbit : (word N m).testBit d with
          | true =>
            rw [hbit] at hg
            have HG := Lib.hid hg
            have HBT := Lib.hid hbit
            clear hg hbit
            go_wp2_with fail
            refine HG.out.mono ?_
            rintro e w' ⟨rfl, rfl⟩
            go_wp2
            go_round
            case rel => exact ⟨d, 2 * z + 1, (d : Int) - 1, by omega, by omega, rfl, by simp, Lib.hid (by rw [half_bit, ← HZ.out, HBT.out]; rfl)⟩
            case measure => simp [intOf]
          | false =>
            rw [hbit] at hg
            have HG := Lib.hid hg
            have HBT := Lib.hid hbit
            clear hg hbit
            go_wp2_with fail
            refine HG.out.mono ?_
            rintro e w' ⟨rfl, rfl⟩
            go_wp2
            go_round
            case rel => exact ⟨d, 2 * z, (d : Int) - 1, by omega, by omega, rfl, by simp, Lib.hid (by rw [half_bit, ← HZ.out, HBT.out]; rfl)⟩
            case measure => simp [intOf]
    · obtain rfl : m = (n + 63) / 64 := by have := HXM.out; omega
      have HI : Hid (PutInv w wr w.heap.size u3 (4 + 8 * ((n + 63) / 64)) (bhead n N)) := Lib.hid ⟨HOO.out, HBB.out⟩
      clear HOO HBB hBs HP1 HXM
      obtain ⟨wo, rfl⟩ : ∃ wo : World, wo = wr := ⟨_, rfl⟩
      go_wp2
      go_loopw [3, 7, 8] (fun o x i wr => ∃ j : Nat, j ≤ n ∧ i = .int .i64 j ∧ x = .int .i64 (cnt N j : Nat) ∧ PutInv w wr w.heap.size o (4 + 8 * ((n + 63) / 64) + 4 * ((j + 511) / 512)) (bhead n N ++ putL 4 (cntsN N ((j + 511) / 512)))) (fun _ _ i _ => n - (intOf i).toNat)
      case atStart => exact ⟨0, by omega, rfl, rfl, by simpa [putL, cntsN] using HI.out⟩
      case round =>
        obtain ⟨j, hj, rfl, rfl, hown, hB⟩ := hrel
        have hBs := hB.size
        have hcb := cnt_le N j
        by_cases hlt : j < n
        · obtain ⟨b, off, u, rfl, hb, hu, hcc⟩ := HS.out.at_ hlt
          obtain ⟨v, hv, rfl⟩ := at_bool hu
          have HV : Hid (cnt N (j + 1) = cnt N j + v.toNat) := Lib.hid (by rw [cnt_succ, ← HNN.out, bit_at l j v hv])
          clear hu hv
          have hcr := (hB.cell (p := ⟨b, off + j, none⟩) hb).trans hcc
          clear hcc
          have HBB := Lib.hid hB; clear hB
          have HOO := Lib.hid hown; clear hown
          by_cases h8 : j % 512 = 0
          · have hb8 : ((j : Int) % 512 == 0) = true := by simp; omega
            have hcu : IntKind.u64.wrap ((cnt N j : Nat) : Int) = ((cnt N j : Nat) : Int) := wrap_u64_small _ (by omega)
            go_wp2_with fail
            refine (rnum_any wr w.heap.size _ (4 + 8 * ((n + 63) / 64) + 4 * ((j + 511) / 512)) (bhead n N ++ putL 4 (cntsN N ((j + 511) / 512))) (cnt N j) 4 hBs (by omega) (by omega) (by omega) HOO.out).mono ?_
            rintro e w3 ⟨v3, rfl, hP3⟩
            have hc3 := (hP3.2.cell (p := ⟨b, off + j, none⟩) hb).trans hcr
            have HP3 := Lib.hid hP3; clear hP3 hcr hcu
            have hfin : Hid (PutInv w w3 w.heap.size v3 (4 + 8 * ((n + 63) / 64) + 4 * ((j + 1 + 511) / 512)) (bhead n N ++ putL 4 (cntsN N ((j + 1 + 511) / 512)))) := Lib.hid ⟨by
              have h := HP3.out.1
              rw [show (j + 1 + 511) / 512 = (j + 511) / 512 + 1 by omega, cntsN_snoc, putL_snoc, show 512 * ((j + 511) / 512) = j by omega, ← List.append_assoc]
              exact h, HBB.out.trans HP3.out.2⟩
            cases v <;>
            · go_wp2
              go_roundw
              case rel => exact ⟨j + 1, by omega, by go_num, by rw [HV.out]; go_num, hfin.out⟩
              case measure => simp [intOf]; omega
          · have hb8 : ((j : Int) % 512 == 0) = false := by simp; omega
            have hfin : Hid (PutInv w wr w.heap.size u3 (4 + 8 * ((n + 63) / 64) + 4 * ((j + 1 + 511) / 512)) (bhead n N ++ putL 4 (cntsN N ((j + 1 + 511) / 512)))) := Lib.hid ⟨by
              rw [show (j + 1 + 511) / 512 = (j + 511) / 512 by omega]
              exact HOO.out, HBB.out⟩
            cases v <;>
            · go_wp2
              go_roundw
              case rel => exact ⟨j + 1, by omega, by go_num, by rw [HV.out]; go_num, hfin.out⟩
              case measure => simp [intOf]; omega
        · obtain rfl : j = n := by omega
          have hfin : Hid (PutInv w wr w.heap.size u3 (4 + 8 * ((j + 63) / 64) + 4 * (((j + 63) / 64 + 7) / 8)) (bcode j N)) := Lib.hid ⟨by
              unfold bcode
              rw [show ((j + 63) / 64 + 7) / 8 = (j + 511) / 512 by omega]
              exact hown, hB⟩
          go_wp2
          go_ret
          exact ⟨_, rfl, hfin.out⟩
end Go.Proofs.Ytpnkjfjkeoleaaa.B
