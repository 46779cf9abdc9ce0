/-
  Plain laws of frames: sums go on; a payload comes back from its frame, whatever stands behind; a frame that is cut off is too short.
-/
import Derived.Test.YtalgnfadfngdoaaWrap
namespace Go.Proofs.Ytalgnfadfngdoaa

theorem crc_append (r : BitVec 32) (a b : List UInt8) : crc r (a ++ b) = crc (crc r a) b := by
  unfold crc
  rw [List.foldl_append]
/-- A sum is gone on from. -/
theorem addF_sum (a b : List UInt8) : addF (sumF a) b = sumF (a ++ b) := by
  unfold sumF addF
  rw [crc_append, BitVec.not_not]

theorem num4_wrapF (l r : List UInt8) : num4 (wrapF l ++ r) = BitVec.ofNat 32 l.length := by
  unfold wrapF
  rw [List.append_assoc, List.append_assoc]
  exact num4_le4 _ _
theorem num4_nat (l r : List UInt8) (h : l.length ≤ 65536) : (num4 (wrapF l ++ r)).toNat = l.length := by
  rw [num4_wrapF, BitVec.toNat_ofNat, Nat.mod_eq_of_lt (by omega)]
theorem take_wrapF (l r : List UInt8) : (wrapF l ++ r).take (l.length + 4) = le4 (BitVec.ofNat 32 l.length) ++ l := by
  unfold wrapF
  rw [List.append_assoc, List.take_left' (by rw [List.length_append, le4_len]; omega)]
theorem drop_wrapF (l r : List UInt8) : (wrapF l ++ r).drop (l.length + 4) = le4 (sumF (le4 (BitVec.ofNat 32 l.length) ++ l)) ++ r := by
  unfold wrapF
  rw [List.append_assoc, List.drop_left' (by rw [List.length_append, le4_len]; omega)]

theorem uwErr_wrapF (l r : List UInt8) (h : l.length ≤ 65536) : uwErr (wrapF l ++ r) = 0 := by
  unfold uwErr
  have hn := num4_nat l r h
  have hlen : (wrapF l ++ r).length = l.length + 8 + r.length := by rw [List.length_append, wrapF_len]
  rw [if_neg (by omega), if_neg (by omega), if_neg (by omega), hn, take_wrapF, drop_wrapF, num4_le4, if_pos rfl]
theorem uwN_wrapF (l r : List UInt8) (h : l.length ≤ 65536) : uwN (wrapF l ++ r) = l.length := by
  unfold uwN
  rw [if_pos (uwErr_wrapF l r h), num4_nat l r h]
theorem uwSize_wrapF (l r : List UInt8) (h : l.length ≤ 65536) : uwSize (wrapF l ++ r) = l.length + 8 := by
  unfold uwSize
  rw [if_pos (uwErr_wrapF l r h), num4_nat l r h]
theorem uwPay_wrapF (l r : List UInt8) (h : l.length ≤ 65536) : uwPay (wrapF l ++ r) = l := by
  unfold uwPay
  rw [if_pos (uwErr_wrapF l r h), num4_nat l r h, take_wrapF, List.drop_left' (le4_len _)]

/-- A frame that is cut off. -/
theorem num4_take (l : List UInt8) (k : Nat) (hk : 4 ≤ k) : num4 (l.take k) = num4 l := by
  unfold num4
  rw [List.take_take, Nat.min_eq_left hk]
theorem uwErr_cut (l : List UInt8) (k : Nat) (h : l.length ≤ 65536) (hk : k < l.length + 8) : uwErr ((wrapF l).take k) = 21 := by
  have hlen : ((wrapF l).take k).length = k := by rw [List.length_take, wrapF_len]; omega
  unfold uwErr
  by_cases h4 : k < 4
  · rw [if_pos (by omega)]
  · have hn : (num4 ((wrapF l).take k)).toNat = l.length := by
      rw [num4_take _ _ (by omega)]
      have := num4_nat l [] h
      rwa [List.append_nil] at this
    rw [if_neg (by omega), if_neg (by omega), if_pos (by omega)]
theorem uwN_bad (l : List UInt8) (h : uwErr l ≠ 0) : uwN l = 0 := by unfold uwN; rw [if_neg h]
theorem uwSize_bad (l : List UInt8) (h : uwErr l ≠ 0) : uwSize l = 0 := by unfold uwSize; rw [if_neg h]
theorem uwPay_bad (l : List UInt8) (h : uwErr l ≠ 0) : uwPay l = [] := by unfold uwPay; rw [if_neg h]

open Go.RowKit in
/-- Unwrap of a frame, whatever stands behind it. -/
theorem unwrap_back (A : Option Addr) (n c : Nat) (l r : List UInt8) (k : Nat) (B : Nat) (w : World) (hn : n ≤ 1099511627776) (hnc : n ≤ c) (hr : Byt w B A n (wrapF l ++ r)) (hB : B ≤ w.heap.size) (hk : l.length = k) (h : k ≤ 65536) :
    Calls Try.prog 17 #[.slice A n c] w fun e w' => ∃ A' c', e = .returned (.tuple #[.slice A' k c', .int .i64 ((k : Int) + 8), .int .i64 0]) ∧ Byt w' w'.heap.size A' k l ∧ Below w.heap.size w w' := by
  subst hk
  refine (unwrap_any A n c _ B w hn hnc hr hB).mono ?_
  rintro e w' ⟨A', c', rfl, hp, hb⟩
  rw [uwN_wrapF _ _ h, uwPay_wrapF _ _ h] at hp
  exact ⟨A', c', by rw [uwN_wrapF _ _ h, uwSize_wrapF _ _ h, uwErr_wrapF _ _ h]; rfl, hp, hb⟩
open Go.RowKit in
/-- Unwrap of what is told as wrong. -/
theorem unwrap_bad (A : Option Addr) (n c : Nat) (l : List UInt8) (k : Nat) (ki : Int) (B : Nat) (w : World) (hn : n ≤ 1099511627776) (hnc : n ≤ c) (hr : Byt w B A n l) (hB : B ≤ w.heap.size) (he : uwErr l = k) (hki : ki = (k : Int)) (h0 : k ≠ 0) :
    Calls Try.prog 17 #[.slice A n c] w fun e w' => ∃ A' c', e = .returned (.tuple #[.slice A' 0 c', .int .i64 0, .int .i64 ki]) ∧ Below w.heap.size w w' := by
  refine (unwrap_any A n c _ B w hn hnc hr hB).mono ?_
  rintro e w' ⟨A', c', rfl, hp, hb⟩
  have hz : uwErr l ≠ 0 := by omega
  exact ⟨A', c', by rw [uwN_bad _ hz, uwSize_bad _ hz, he, hki]; rfl, hb⟩
end Go.Proofs.Ytalgnfadfngdoaa
