/- Bytes as strings: string(b), and two strings that are equal. Conditions: those each theorem names. -/
import Derived.Test.YtofeemmmdbdjdaaMem2
import Derived.Laws.BytesArg
import Derived.WalkKit
set_option linter.unusedVariables false
namespace Go.Proofs.Ytofeemmmdbdjdaa
open Go.RowKit

/-- The string of bytes that are given as numbers. -/
def bs (l : List Nat) : ByteArray := strOfNums (l.map fun v : Nat => (v : Int))
theorem bs_size (l : List Nat) : (bs l).size = l.length := by unfold bs; rw [strOfNums_size, List.length_map]
theorem bs_data (l : List Nat) : (bs l).data.toList = l.map UInt8.ofNat := by
  unfold bs
  rw [strOfNums_data, List.map_map]
  apply List.map_congr_left
  intro v _
  simp
theorem bs_toList (l : List Nat) : (bs l).toList = l.map UInt8.ofNat := by
  rw [← bs_data]
  exact ByteArray.toList_eq (bs l)
theorem map_ofNat_inj : ∀ (l m : List Nat), (∀ v ∈ l, v < 256) → (∀ v ∈ m, v < 256) → l.map UInt8.ofNat = m.map UInt8.ofNat → l = m
  | [], [], _, _, _ => rfl
  | [], _ :: _, _, _, h => by simp at h
  | _ :: _, [], _, _, h => by simp at h
  | a :: l, b :: m, hl, hm, h => by
    simp only [List.map_cons, List.cons.injEq] at h
    have h1 := hl a (by simp)
    have h2 := hm b (by simp)
    have e : a = b := by
      have := congrArg UInt8.toNat h.1
      simp only [UInt8.toNat_ofNat'] at this
      omega
    rw [e, map_ofNat_inj l m (fun v hv => hl v (by simp [hv])) (fun v hv => hm v (by simp [hv])) h.2]
theorem bs_beq (l m : List Nat) (hl : ∀ v ∈ l, v < 256) (hm : ∀ v ∈ m, v < 256) : ((bs l).toList == (bs m).toList) = decide (l = m) := by
  rw [bs_toList, bs_toList]
  by_cases h : l = m
  · subst h; simp
  · have : ¬ l.map UInt8.ofNat = m.map UInt8.ofNat := fun e => h (map_ofNat_inj l m hl hm e)
    simp [h, this]
theorem conv_sl {P : Program} {w : World} {B : Nat} {A : Option Addr} {n : Nat} {l : List Nat} (src e dst : TypeId) (hs : P.underlying src = some (.slice e)) (he : P.underlying e = some (.int .u8)) (hd : P.underlying dst = some .string)
    (h : Sl w B A n (l.map fun v : Nat => Value.int .u8 (v : Int))) (c : Nat) : (convert src dst (.slice A n c)).run P w = .ok (.string (bs l)) w := by
  have hl : l.length = n := by have := h.1; simpa using this
  rcases Nat.eq_zero_or_pos n with h0 | h0
  · subst h0
    obtain rfl : l = [] := List.eq_nil_of_length_eq_zero hl
    rw [run_convert_bytes_string w src dst e A 0 c hs he hd]
    rcases A with _ | ad
    · simp [Conv.bytesToString]; rfl
    · rw [run_bytesToString w ad 0 c [] rfl]; rfl
  · obtain ⟨b, off, rfl, hb, hc⟩ := h.2 h0
    refine run_convert_bytes_arg (P := P) w src e hs he b off n c (l.map fun v : Nat => (v : Int)) (by simpa using hl) (fun i hi => ?_) dst hd
    refine hc i _ ?_
    rw [List.getElem?_map, List.getElem?_eq_getElem (by omega)]
    simp [List.getElem?_eq_getElem (show i < l.length by omega)]
end Go.Proofs.Ytofeemmmdbdjdaa
