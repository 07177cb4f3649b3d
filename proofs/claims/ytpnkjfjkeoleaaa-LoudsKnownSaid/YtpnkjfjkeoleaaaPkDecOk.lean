/- packed: Decode, the codes of the right size. -/
import Derived.Test.YtpnkjfjkeoleaaaPkDec
set_option linter.unusedVariables false
set_option maxRecDepth 100000
namespace Go.Proofs.Ytpnkjfjkeoleaaa
open Go.RowKit HK

/-- One byte more in the words. -/
theorem words_put (N v M m wd : Nat) (hN : N < 2 ^ M) (hv : v < 2 ^ wd) (hw : M % 64 + wd ≤ 64) :
    (wordsA N m).setIfInBounds (M / 64) (.int .u64 ((word N (M / 64) ||| v * 2 ^ (M % 64) % 2 ^ 64 : Nat) : Int)) = wordsA (N + 2 ^ M * v) m := by
  apply wordsA_ext
  · simp [wordsA_size]
  · intro k hk
    rw [Array.getElem?_setIfInBounds]
    by_cases hkk : M / 64 = k
    · subst hkk; simp [wordsA_size, hk, word_set_at N v M hN]
    · rw [if_neg hkk, wordsA_at N _ _ hk, word_set_other N v M wd k hN hv (by omega) (fun e => hkk e.symm) (fun _ => hw)]
/-- The numbers that have been read, zeros behind them. -/
def numsA (wd N n k : Nat) : Array Value := ((List.range n).map fun i => Value.int .u64 ((if i < k then N / 2 ^ (wd * i) % 2 ^ wd else 0 : Nat) : Int)).toArray
theorem numsA_size (wd N n k : Nat) : (numsA wd N n k).size = n := by simp [numsA]
theorem numsA_zero (wd N n : Nat) : madeCells #[Value.int .u64 0] n = numsA wd N n 0 := by
  apply Array.ext_getElem?
  intro i
  by_cases hi : i < n
  · simp [madeCells, numsA, hi, Nat.mod_one]
  · rw [Array.getElem?_eq_none (by rw [size_madeCells]; omega), Array.getElem?_eq_none (by rw [numsA_size]; omega)]
theorem numsA_at (wd N n k i : Nat) (hi : i < n) : (numsA wd N n k)[i]? = some (.int .u64 ((if i < k then N / 2 ^ (wd * i) % 2 ^ wd else 0 : Nat) : Int)) := by simp [numsA, hi]
theorem numsA_put (wd N n k : Nat) (hk : k < n) : (numsA wd N n k).setIfInBounds k (.int .u64 ((N / 2 ^ (k * wd) % 2 ^ wd : Nat) : Int)) = numsA wd N n (k + 1) := by
  apply Array.ext_getElem?
  intro i
  by_cases hi : i < n
  · rw [Array.getElem?_setIfInBounds, numsA_at _ _ _ _ _ hi, numsA_at _ _ _ _ _ hi]
    by_cases e : k = i
    · subst e
      rw [if_pos rfl, if_pos (by rw [numsA_size]; exact hi), if_pos (by omega), Nat.mul_comm]
    · rw [if_neg e]
      by_cases h2 : i < k
      · rw [if_pos h2, if_pos (by omega)]
      · rw [if_neg h2, if_neg (by omega)]
  · rw [Array.getElem?_eq_none (by simp [numsA_size]; omega), Array.getElem?_eq_none (by rw [numsA_size]; omega)]
theorem numsA_full (wd N n : Nat) : (numsA wd N n n).toList = (unpack wd n N).map u64v := by
  unfold numsA unpack u64v
  rw [List.map_map]
  apply List.map_congr_left
  intro i hi
  rw [if_pos (List.mem_range.1 hi)]; rfl

/-- What Decode comes to, where ls are the numbers that the bytes bl hold. -/
def DecPost (w : World) (bl ls : List Nat) (e : Ending) (w' : World) : Prop :=
  Below w.heap.size w w' ∧ ((code ls = bl ∧ ∃ p g, e = .returned (.tuple #[.pointer (some ⟨p, 0, none⟩), .int .i64 0]) ∧ IsP w' w.heap.size p g ls) ∨ (code ls ≠ bl ∧ e = .returned (.tuple #[.pointer none, .int .i64 5])))
theorem unpack_lt (wd n N : Nat) (h : wd ≤ 64) : ∀ v ∈ unpack wd n N, v < 2 ^ 64 := by
  intro v hv
  obtain ⟨i, _, rfl⟩ := List.mem_map.1 hv
  exact Nat.lt_of_lt_of_le (Nat.mod_lt _ (Nat.two_pow_pos _)) (Nat.pow_le_pow_right (by decide) h)
theorem code_lt (l : List Nat) : ∀ v ∈ code l, v < 256 := by
  intro v hv
  unfold code at hv
  rcases List.mem_append.1 hv with h | h
  · simp only [hdr, List.mem_cons, List.not_mem_nil, or_false] at h
    omega
  · exact bytesN_lt _ _ v h

set_option maxHeartbeats 8000000 in
theorem pdec_ok (w : World) (b off n c b0 b1 b2 b3 wd N4 : Nat) (hn : 5 ≤ n) (hnc : n ≤ c) (hcm : c ≤ 9223372036854775807) (hh : Head w b off n b0 b1 b2 b3 wd N4) (hok : N4 ≤ 1048576) (hok2 : wd ≤ 64) (hlen : n = 5 + (N4 * wd + 7) / 8)
    (bl : List Nat) (hbl : ∀ v ∈ bl, v < 256) (hs : Sl w w.heap.size (some ⟨b, off, none⟩) n (bl.map u8v)) :
    Calls Try.prog 43 #[.slice (some ⟨b, off, none⟩) n c] w (DecPost w bl (unpack wd N4 (packN 8 (bl.drop 5)))) := by
  obtain ⟨h0, h1, h2, h3, h4, c0, c1, c2, c3, c4, eN⟩ := hh
  have hnb : decide ((n : Int) < 5) = false := by simp; omega
  have i0 : (0 : Int) < (n : Int) := by omega
  have i1 : (1 : Int) < (n : Int) := by omega
  have i2 : (2 : Int) < (n : Int) := by omega
  have i3 : (3 : Int) < (n : Int) := by omega
  have i4 : (4 : Int) < (n : Int) := by omega
  have hN4 : N4 < 4294967296 := by omega
  obtain ⟨x1, hx1⟩ : ∃ x1, b0 + b1 * 256 = x1 := ⟨_, rfl⟩
  obtain ⟨x2, hx2⟩ : ∃ x2, x1 + b2 * 65536 = x2 := ⟨_, rfl⟩
  have o1 := or4_1 b0 b1 h0 h1
  have o2 := or4_2 x1 b2 (by omega) h2
  have o3 := or4_3 x2 b3 (by omega) h3
  rw [show x2 + b3 * 16777216 = N4 by omega] at o3
  rw [hx1] at o1
  rw [hx2] at o2
  clear eN hx1 hx2
  have g1 : decide ((1048576 : Int) < (N4 : Int)) = false := by simp; omega
  have g2 : decide ((64 : Int) < (wd : Int)) = false := by simp; omega
  have hp : N4 * wd ≤ 67108864 := by
    have := Nat.mul_le_mul hok hok2
    omega
  have hpi : (N4 : Int) * (wd : Int) ≤ 67108864 := by rw [cast_prod]; omega
  have hpi0 : 0 ≤ (N4 : Int) * (wd : Int) := by rw [cast_prod]; omega
  have e1 : IntKind.i64.wrap ((N4 : Int) * (wd : Int)) = (N4 : Int) * (wd : Int) := IntWalk.i64_in _ (by omega)
  have e2 : IntKind.i64.wrap ((N4 : Int) * (wd : Int) + 7) = (N4 : Int) * (wd : Int) + 7 := IntWalk.i64_in _ (by omega)
  have g3 : ((n : Int) != 5 + ((N4 : Int) * (wd : Int) + 7) / 8) = false := by rw [bne_eq_false_iff_eq, cast_prod]; omega
  have HLEN := Lib.hid hlen; clear hlen
  have HBL := Lib.hid hbl; have HS := Lib.hid hs; clear hbl hs
  have hmk := run_make_row' (P := Try.prog) 80 87 (.int .u64 0) 8 Try.underlying80 infoU64 rfl .i64 .i64 ((N4 * wd + 63) / 64) (by omega) (by omega)
  have ec : (((N4 * wd + 63) / 64 : Nat) : Int) = ((N4 : Int) * (wd : Int) + 63) / 64 := by rw [cast_prod]; omega
  rw [ec, made_words] at hmk
  clear ec
  have HMK := Lib.hid hmk; clear hmk
  have hnl : (5 : Int) ≤ (n : Int) := by omega
  obtain ⟨A5, hA5⟩ : ∃ A5, (if c = 5 then some (⟨b, off, none⟩ : Addr) else some ⟨b, off + 5, none⟩) = A5 := ⟨_, rfl⟩
  have HA5 : Hid (5 < n → A5 = some ⟨b, off + 5, none⟩) := Lib.hid (fun h => by rw [← hA5, if_neg (by omega)])
  go_enter Try.func43, Try.ntmps43
  go_wp2
  go_region
  clear o1 o2 o3 i0 i1 i2 i3 i4 c0 c1 c2 c3 c4
  go_wp2
  go_quiet (fail)
  clear e1 e2
  have hmk := HMK.out
  go_wp2
  go_region
  clear hmk
  go_wp2
  have HD : Hid ((bl.drop 5).length = n - 5) := Lib.hid (by have := HS.out.1; simp at this; simp; omega)
  obtain ⟨dl, hdl⟩ : ∃ dl, bl.drop 5 = dl := ⟨_, rfl⟩
  have HDA : Hid (∀ k v, dl[k]? = some v → bl[5 + k]? = some v) := Lib.hid (by
    intro k v h
    rw [← hdl, List.getElem?_drop] at h
    exact h)
  have HD8 : Hid (∀ v ∈ dl, v < 256) := Lib.hid (fun v hv => HBL.out v (List.mem_of_mem_drop (by rw [hdl]; exact hv)))
  rw [hdl] at HD ⊢
  have HDL := Lib.hid hdl; clear hdl hA5 g1 g2 g3 hnb
  go_loopw [89] (fun i wr => ∃ k : Nat, k ≤ n - 5 ∧ i = .int .i64 k ∧ PR wr w.heap.size (w.heap.size + 1) N4 wd (packN 8 (dl.take k)) ∧ Below w.heap.size w wr) (fun i _ => n - 5 - (intOf i).toNat)
  case atStart =>
    refine ⟨0, Nat.zero_le _, rfl, ⟨?_, ?_⟩, ?_⟩
    · exact (((Row.new w 108 #[.int .i64 N4, .int .i64 wd, .slice none 0 0]).drewN _).put 2 _).alloc _
    · have h := Row.new ((((w.alloc (.cells #[.int .i64 N4, .int .i64 wd, .slice none 0 0] 108)).drewN (1 + nq + 1)).setCell ⟨w.heap.size, 2, none⟩ (.slice (some ⟨w.heap.size + 1, 0, none⟩) ((N4 * wd + 63) / 64) ((N4 * wd + 63) / 64)))) 87 (wordsA 0 ((N4 * wd + 63) / 64))
      have e : ((((w.alloc (.cells #[.int .i64 N4, .int .i64 wd, .slice none 0 0] 108)).drewN (1 + nq + 1)).setCell ⟨w.heap.size, 2, none⟩ (.slice (some ⟨w.heap.size + 1, 0, none⟩) ((N4 * wd + 63) / 64) ((N4 * wd + 63) / 64)))).heap.size = w.heap.size + 1 := by simp [World.setCell]
      rw [e] at h
      exact h
    · exact ((bel_drewN ((Below.refl _ w).alloc (Nat.le_refl _) _) _).setCell (p := ⟨w.heap.size, 2, none⟩) (Nat.le_refl _) _).alloc (by simp [World.setCell]) _
  case round =>
    obtain ⟨k, hk, rfl, hpr, hB⟩ := hrel
    have HPR := Lib.hid hpr; clear hpr
    by_cases hlt : k < n - 5
    · have hA := HA5.out (by omega)
      obtain ⟨b', off', u, he, hb, hu, hcu⟩ := HS.out.at_ (k := 5 + k) (by omega)
      injection he with he
      injection he with he1 he2
      subst he1 he2
      have hdk : k < dl.length := by rw [HD.out]; exact hlt
      obtain ⟨v, hv⟩ : ∃ v, dl[k]? = some v := ⟨_, List.getElem?_eq_getElem hdk⟩
      have hbv := HDA.out k v hv
      have hu2 : u = .int .u8 (v : Int) := by
        rw [List.getElem?_map, hbv] at hu
        injection hu with hu
        exact hu.symm
      subst hu2
      have hv8 : v < 256 := HD8.out v (List.mem_of_getElem? hv)
      have HV := Lib.hid hv; clear hu hv hbv
      have hcb : wr.cell? ⟨b, off + 5 + k, none⟩ = some (.int .u8 (v : Int)) := by
        rw [Nat.add_assoc]
        exact (hB.cell (p := ⟨b, off + (5 + k), none⟩) hb).trans hcu
      clear hcu
      have hat : k / 8 < (N4 * wd + 63) / 64 := by have := HLEN.out; omega
      have hd2 : wr.cell? ⟨w.heap.size, 2, none⟩ = some (.slice (some ⟨w.heap.size + 1, 0, none⟩) ((N4 * wd + 63) / 64) ((N4 * wd + 63) / 64)) := HPR.out.1.cell 2
      have hx : wr.cell? ⟨w.heap.size + 1, k / 8, none⟩ = some (.int .u64 (word (packN 8 (dl.take k)) (k / 8))) := (HPR.out.2.cell (k / 8)).trans (wordsA_at _ _ _ hat)
      have hf : wr.frozen? ⟨w.heap.size + 1, k / 8, none⟩ = false := HPR.out.2.frozen _
      have hati : (k : Int) / 8 < ((N4 * wd + 63) / 64 : Nat) := by omega
      have HSV := Lib.hid (set_val_one (word (packN 8 (dl.take k)) (k / 8)) v (k % 8 * 8) (word_lt _ _))
      rw [hA]
      clear hA
      go_wp2
      go_roundw
      case rel =>
        have hNl : packN 8 (dl.take k) < 2 ^ (8 * k) := by
          have h1 := packN_lt 8 (dl.take k) (fun x hx => HD8.out x (List.mem_of_mem_take hx))
          rw [List.length_take, HD.out, Nat.min_eq_left (by omega)] at h1
          exact h1
        have hw := words_put (packN 8 (dl.take k)) v (8 * k) ((N4 * wd + 63) / 64) 8 hNl hv8 (by omega)
        rw [show 8 * k / 64 = k / 8 by omega, show 8 * k % 64 = k % 8 * 8 by omega] at hw
        refine ⟨k + 1, by omega, by go_num, ⟨HPR.out.1.far HPR.out.bg _, ?_⟩, hB.setCell (p := ⟨w.heap.size + 1, k / 8, none⟩) (Nat.le_succ _) _⟩
        have hr := HPR.out.2.put (k / 8) (.int .u64 ((word (packN 8 (dl.take k)) (k / 8) ||| v * 2 ^ (k % 8 * 8) % 2 ^ 64 : Nat) : Int))
        rw [hw] at hr
        rw [HSV.out, take_snoc_n dl k v HV.out, packN_append, List.length_take, HD.out, Nat.min_eq_left (by omega)]
        exact hr
      case measure => simp [intOf]; omega
    · obtain rfl : k = n - 5 := by omega
      have hfull : packN 8 (dl.take (n - 5)) = packN 8 dl := by rw [List.take_of_length_le (by rw [HD.out]; exact Nat.le_refl _)]
      rw [hfull] at HPR
      clear hfull
      obtain ⟨NN, hNN⟩ : ∃ NN, packN 8 dl = NN := ⟨_, rfl⟩
      rw [hNN] at HPR
      have HNN := Lib.hid hNN; clear hNN
      obtain ⟨wa, rfl⟩ : ∃ wa : World, wa = wr := ⟨_, rfl⟩
      have hm0 : wa.cell? ⟨w.heap.size, 0, none⟩ = some (.int .i64 N4) := HPR.out.1.cell 0
      have hmk := run_make_row' (P := Try.prog) 80 87 (.int .u64 0) 8 Try.underlying80 infoU64 rfl .i64 .i64 N4 (by omega) (by omega)
      rw [numsA_zero wd NN N4] at hmk
      go_wp2
      clear hmk
      have hlt1 := HPR.out.1.lt
      have hlt2 := HPR.out.2.lt
      go_loopw [119] (fun i wr => ∃ k : Nat, k ≤ N4 ∧ i = .int .i64 k ∧ PR wr w.heap.size (w.heap.size + 1) N4 wd NN ∧ Row wr wa.heap.size 87 (numsA wd NN N4 k) ∧ Below w.heap.size w wr) (fun i _ => N4 - (intOf i).toNat)
      case atStart => exact ⟨0, Nat.zero_le _, rfl, ⟨HPR.out.1.alloc _, HPR.out.2.alloc _⟩, Row.new wa _ _, hB.alloc hB.size _⟩
      case round =>
        obtain ⟨k, hk, rfl, hpr, hrow, hB'⟩ := hrel
        have HPR' := Lib.hid hpr; have HROW := Lib.hid hrow; clear hpr hrow
        by_cases hlt : k < N4
        · have hg := pget_any wr w.heap.size (w.heap.size + 1) N4 wd k NN hok hok2 hlt HPR'.out
          have HG := Lib.hid hg; clear hg
          have hcl : wr.cell? ⟨wa.heap.size, k, none⟩ = some (.int .u64 ((if k < k then NN / 2 ^ (wd * k) % 2 ^ wd else 0 : Nat) : Int)) := (HROW.out.cell k).trans (numsA_at _ _ _ _ _ hlt)
          rw [if_neg (Nat.lt_irrefl _)] at hcl
          have hfl : wr.frozen? ⟨wa.heap.size, k, none⟩ = false := HROW.out.frozen k
          go_wp2_with (go_at_call 70; refine HG.out.mono ?_; rintro e w' ⟨rfl, q', hw'⟩; rw [hw']; clear hw')
          go_roundw
          case rel =>
            have hr := (HROW.out.drewN q').put k (.int .u64 ((NN / 2 ^ (k * wd) % 2 ^ wd : Nat) : Int))
            rw [numsA_put wd NN N4 k hlt] at hr
            refine ⟨k + 1, by omega, by go_num, ⟨(HPR'.out.1.drewN q').far (by show w.heap.size ≠ wa.heap.size; omega) _, (HPR'.out.2.drewN q').far (by show w.heap.size + 1 ≠ wa.heap.size; omega) _⟩, hr, (bel_drewN hB' q').setCell (p := ⟨wa.heap.size, k, none⟩) hB.size _⟩
          case measure => simp [intOf]; omega
        · obtain rfl : N4 = k := by omega
          have hsl : Sl wr wr.heap.size (some ⟨wa.heap.size, 0, none⟩) N4 ((unpack wd N4 NN).map u64v) := by
            have h := Sl.of_row HROW.out N4 (by rw [numsA_size]; exact Nat.le_refl _)
            rw [numsA_full, List.take_of_length_le (by simp [unpack_length])] at h
            exact h
          have HSL := Lib.hid hsl; clear hsl
          have hul := unpack_lt wd N4 NN hok2
          have hull := unpack_length wd N4 NN
          obtain ⟨ls, hls⟩ : ∃ ls, unpack wd N4 NN = ls := ⟨_, rfl⟩
          rw [hls] at HSL hul hull
          have HLS := Lib.hid hls
          have HUL := Lib.hid hul; have HULL := Lib.hid hull; clear hul hull hls HROW HPR' HPR
          go_wp2_with fail
          refine (new_any wr (some ⟨wa.heap.size, 0, none⟩) N4 N4 ls hok HUL.out HSL.out).mono ?_
          rintro e w1 ⟨p, g, rfl, hip, hB1⟩
          have HIP := Lib.hid hip; clear hip
          have hB1' := hB'.trans (hB1.mono hB'.size)
          go_wp2_with fail
          refine (enc_any w1 _ p g ls (by rw [HULL.out]; exact hok) HUL.out HIP.out).mono ?_
          rintro e w2 ⟨A2, c2, rfl, hown2, hB2, hc2⟩
          have hB2' := hB1'.trans (hB2.mono hB1'.size)
          have HIP2 := Lib.hid (HIP.out.below hB2 (Nat.le_refl _))
          have HO2 := Lib.hid hown2; clear hown2 HIP
          go_wp2_with fail
          refine (bequal_any w2 A2 _ _ _ _ _ w2.heap.size (code ls) bl (code_lt ls) HBL.out (Sl.of_own HO2.out) ((HS.out.below hB2').more hB2'.size)).mono ?_
          rintro e w' ⟨rfl, rfl⟩
          by_cases heq : code ls = bl
          · rw [decide_eq_true heq]
            have HEQ := Lib.hid heq; clear heq
            go_wp2
            go_ret2
            have hpost : DecPost w bl ls (.returned (.tuple #[.pointer (some ⟨p, 0, none⟩), .int .i64 0])) w2 := ⟨hB2', .inl ⟨HEQ.out, p, g, rfl, HIP2.out.1, by have := HIP2.out.2.1; have := hB'.size; omega, by have := HIP2.out.2.2; have := hB'.size; omega⟩⟩
            first | exact hpost | (rw [HLS.out]; exact hpost) | (rw [HNN.out, HLS.out]; exact hpost) | (rw [HDL.out, HNN.out, HLS.out]; exact hpost)
          · rw [decide_eq_false heq]
            have HEQ := Lib.hid heq; clear heq
            go_wp2
            go_ret2
            have hpost : DecPost w bl ls (.returned (.tuple #[.pointer none, .int .i64 5])) w2 := ⟨hB2', .inr ⟨HEQ.out, rfl⟩⟩
            first | exact hpost | (rw [HLS.out]; exact hpost) | (rw [HNN.out, HLS.out]; exact hpost) | (rw [HDL.out, HNN.out, HLS.out]; exact hpost)
end Go.Proofs.Ytpnkjfjkeoleaaa
