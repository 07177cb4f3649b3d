/- The reference of layer 10: Width. -/
import Derived.Test.YtjjhllbbkflnnaaPkSame
set_option linter.unusedVariables false
namespace Go.Proofs.Ytjjhllbbkflnnaa
open Go.RowKit HK

set_option maxHeartbeats 1000000 in
theorem rwidth_any (w : World) (A : Option Addr) (n c B : Nat) (l : List Nat) (hn : n ≤ maxLen) (hl : ∀ v ∈ l, v < 2 ^ 64) (hs : Sl w B A n (l.map u64v)) :
    Calls Try.prog 14 #[.slice A n c] w fun e w' => e = .returned (.int .i64 (widthL l)) ∧ w = w' := by
  unfold maxLen at hn
  have hlen : Hid (l.length = n) := Lib.hid (by have := hs.1; simpa using this)
  have HL := Lib.hid hl; clear hl
  have HS := Lib.hid hs; clear hs
  go_enter Try.func14, Try.ntmps14
  go_wp2
  go_loop [3, 4] (fun a i => ∃ k : Nat, k ≤ n ∧ i = .int .i64 k ∧ a = .int .i64 (widthL (l.take k))) (fun _ i => n - (intOf i).toNat)
  case atStart => exact ⟨0, Nat.zero_le _, rfl, rfl⟩
  case round =>
    obtain ⟨k, hk, rfl, rfl⟩ := hrel
    by_cases hlt : k < n
    · obtain ⟨b, off, u, rfl, hb, hu, hc⟩ := HS.out.at_ hlt
      obtain ⟨v, hv, rfl⟩ := at_u64 hu
      have HU := Lib.hid hu; clear hu
      have HVV := Lib.hid hv; clear hv
      have h64 : Hid (blen v ≤ 64) := Lib.hid ((blen_le_iff v 64).2 (HL.out v (List.mem_of_getElem? HVV.out)))
      have h64k : widthL (l.take k) ≤ 64 := widthL_le_64 _ (fun x hx => HL.out x (List.mem_of_mem_take hx))
      go_wp2
      go_loop [3] (fun a => ∃ q : Nat, widthL (l.take k) ≤ q ∧ q ≤ max (widthL (l.take k)) (blen v) ∧ q ≤ 64 ∧ a = .int .i64 q) (fun a => 64 - (intOf a).toNat)
      case atStart => exact ⟨_, Nat.le_refl _, by omega, h64k, rfl⟩
      case round =>
        obtain ⟨q, hq1, hq2, hq3, rfl⟩ := hrel
        have HQ1 := Lib.hid hq1; have HQ2 := Lib.hid hq2; clear hq1 hq2
        by_cases hql : q < 64
        · have hd : decide ((q : Int) < 64) = true := by simp; omega
          by_cases hz : v < 2 ^ q
          · have hz2 : (((v : Int) / 2 ^ q) != 0) = false := by rw [div_pow_cast, Nat.div_eq_of_lt hz]; rfl
            have HZ := Lib.hid hz; clear hz
            go_wp2
            go_round
            case rel =>
              refine ⟨k + 1, by omega, by go_num, ?_⟩
              have h1 := HQ1.out; have h2 := HQ2.out; have h3 := (blen_le_iff v q).2 HZ.out
              rw [take_snoc_n l k v HVV.out, widthL_snoc]
              congr 2; omega
            case measure => simp [intOf]; omega
          · have hz2 : (((v : Int) / 2 ^ q) != 0) = true := by
              rw [div_pow_cast]
              have : 0 < v / 2 ^ q := Nat.div_pos (by omega) (Nat.two_pow_pos q)
              rw [bne_iff_ne]; omega
            have HZ := Lib.hid hz; clear hz
            go_wp2
            go_round
            case rel =>
              have h1 := HQ1.out; have h2 := HQ2.out
              have h3 : ¬ blen v ≤ q := fun h => HZ.out ((blen_le_iff v q).1 h)
              exact ⟨q + 1, by omega, by omega, by omega, by go_num⟩
            case measure => simp [intOf]; omega
        · have hd : decide ((q : Int) < 64) = false := by simp; omega
          go_wp2
          go_round
          case rel =>
            refine ⟨k + 1, by omega, by go_num, ?_⟩
            have h1 := HQ1.out; have h2 := HQ2.out; have h3 := h64.out
            rw [take_snoc_n l k v HVV.out, widthL_snoc]
            congr 2; omega
          case measure => simp [intOf]; omega
    · obtain rfl : n = k := by omega
      go_wp2
      go_ret
      refine ⟨?_, rfl⟩
      rw [List.take_of_length_le (by rw [hlen.out]; exact Nat.le_refl _)]; rfl
end Go.Proofs.Ytjjhllbbkflnnaa
