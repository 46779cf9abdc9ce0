/-
  Numbers as bytes, the lowest first, and back: plain mathematics, and the walk's spelling of it.
-/
import Derived.Test.YtalgnfadfngdoaaBits
namespace Go.Proofs.Ytalgnfadfngdoaa

/-- A number of 64 bits as the walk's number. -/
def n64 (x : BitVec 64) : Int := x.toNat
theorem n64_lo (x : BitVec 64) : 0 ≤ n64 x := by unfold n64; omega
theorem n64_hi (x : BitVec 64) : n64 x < 18446744073709551616 := by unfold n64; have := x.isLt; omega
theorem n64_inj {a b : BitVec 64} (h : n64 a = n64 b) : a = b := by
  unfold n64 at h
  exact BitVec.eq_of_toNat_eq (by omega)
theorem n64_of (k : Nat) (h : k < 18446744073709551616) : n64 (BitVec.ofNat 64 k) = (k : Int) := by
  unfold n64
  rw [BitVec.toNat_ofNat, Nat.mod_eq_of_lt (by omega)]
theorem n64_wide (a : BitVec 32) : n64 (a.setWidth 64) = n32 a := by
  unfold n64 n32
  rw [BitVec.toNat_setWidth, Nat.mod_eq_of_lt (by have := a.isLt; omega)]

/-- Byte k of a number, from the lowest on. -/
def by64 (x : BitVec 64) (k : Nat) : UInt8 := UInt8.ofBitVec ((x >>> (8 * k)).setWidth 8)
theorem n8_by64 (x : BitVec 64) (k : Nat) : n64 x / (2 : Int) ^ (8 * k) % 256 = n8 (by64 x k) := by
  unfold n64 n8 by64
  have h : (UInt8.ofBitVec ((x >>> (8 * k)).setWidth 8)).toNat = x.toNat / 2 ^ (8 * k) % 256 := by
    show ((x >>> (8 * k)).setWidth 8).toNat = _
    rw [BitVec.toNat_setWidth, BitVec.toNat_ushiftRight, Nat.shiftRight_eq_div_pow]
  rw [h]
  generalize x.toNat = a
  generalize 8 * k = j
  rw [Int.natCast_emod, Int.natCast_ediv, Int.natCast_pow]
  rfl
/-- The lowest k bytes, the lowest first. -/
def leN (x : BitVec 64) (k : Nat) : List UInt8 := (List.range k).map (by64 x)
theorem leN_zero (x : BitVec 64) : leN x 0 = [] := rfl
theorem leN_succ (x : BitVec 64) (k : Nat) : leN x (k + 1) = leN x k ++ [by64 x k] := by
  unfold leN
  rw [List.range_succ, List.map_append]
  rfl
theorem leN_len (x : BitVec 64) (k : Nat) : (leN x k).length = k := by simp [leN]

/-- The number of bytes, the lowest first: the first k of them. -/
def deTo (l : List UInt8) : Nat → BitVec 64
  | 0 => 0#64
  | k + 1 => deTo l k ||| (((l[k]?.getD 0).toBitVec.setWidth 64) <<< (8 * k))
def deN (l : List UInt8) : BitVec 64 := deTo l l.length

theorem deTo_bit (x : BitVec 64) (m k i : Nat) (hk : k ≤ m) : (deTo (leN x m) k).getLsbD i = (decide (i < 8 * k) && x.getLsbD i) := by
  induction k with
  | zero => simp [deTo]
  | succ k ih =>
    simp only [deTo]
    rw [BitVec.getLsbD_or, ih (by omega), BitVec.getLsbD_shiftLeft]
    have hg : (leN x m)[k]?.getD 0 = by64 x k := by
      unfold leN
      rw [List.getElem?_map, List.getElem?_range (by omega)]
      rfl
    rw [hg]
    have hb : ((by64 x k).toBitVec.setWidth 64).getLsbD (i - 8 * k) = (decide (i - 8 * k < 8) && x.getLsbD (8 * k + (i - 8 * k))) := by
      show ((((x >>> (8 * k)).setWidth 8)).setWidth 64).getLsbD (i - 8 * k) = _
      rw [BitVec.getLsbD_setWidth, BitVec.getLsbD_setWidth, BitVec.getLsbD_ushiftRight]
      by_cases h : i - 8 * k < 8
      · simp [h, show i - 8 * k < 64 from by omega]
      · simp [h]
    rw [hb]
    by_cases h1 : i < 8 * k
    · simp [h1, show i < 8 * (k + 1) from by omega]
    · rw [show 8 * k + (i - 8 * k) = i from by omega]
      by_cases h2 : i < 64
      · by_cases h3 : i < 8 * (k + 1)
        · simp [h1, h2, h3, show i - 8 * k < 8 from by omega]
        · simp [h1, h3, show ¬ i - 8 * k < 8 from by omega]
      · rw [BitVec.getLsbD_of_ge x i (by omega)]
        simp
/-- A number comes back from its bytes, where they hold all of it. -/
theorem deN_leN (x : BitVec 64) (m : Nat) (h : x.toNat < 2 ^ (8 * m)) : deN (leN x m) = x := by
  unfold deN
  rw [leN_len]
  apply BitVec.eq_of_getLsbD_eq
  intro i hi
  rw [deTo_bit x m m i (Nat.le_refl _)]
  by_cases h1 : i < 8 * m
  · simp [h1]
  · have : x.getLsbD i = false := by
      rw [BitVec.getLsbD]
      exact Nat.testBit_lt_two_pow (Nat.lt_of_lt_of_le h (Nat.pow_le_pow_right (by omega) (by omega)))
    simp [h1, this]
theorem deTo_take (l : List UInt8) (k : Nat) : ∀ j, j ≤ k → deTo (l.take k) j = deTo l j := by
  intro j
  induction j with
  | zero => intro _; rfl
  | succ j ih =>
    intro hj
    simp only [deTo]
    rw [ih (by omega), List.getElem?_take, if_pos (by omega)]

theorem or64 (a b : BitVec 64) : bits .or .u64 (n64 a) (n64 b) = n64 (a ||| b) := by
  unfold n64
  rw [u64_or_nat _ _ (by have := a.isLt; omega) (by have := b.isLt; omega), BitVec.toNat_or]
theorem xor64 (a b : BitVec 64) : bits .xor .u64 (n64 a) (n64 b) = n64 (a ^^^ b) := by
  unfold n64
  rw [u64_xor_nat _ _ (by have := a.isLt; omega) (by have := b.isLt; omega), BitVec.toNat_xor]
theorem wrap_n8 (d : UInt8) : IntKind.u64.wrap (n8 d) = n8 d := by
  rw [IntKind.wrap_u64]
  have := n8_lo d
  have := n8_hi d
  omega
theorem wrap64_n32 (x : BitVec 32) : IntKind.u64.wrap (n32 x) = n32 x := by
  rw [IntKind.wrap_u64]
  have := n32_lo x
  have := n32_hi x
  omega
theorem shl_n8 (d : UInt8) (j : Nat) : IntKind.u64.wrap (n8 d * (2 : Int) ^ j) = n64 ((d.toBitVec.setWidth 64) <<< j) := by
  rw [IntKind.wrap_u64]
  unfold n64 n8
  rw [BitVec.toNat_shiftLeft, Nat.shiftLeft_eq, BitVec.toNat_setWidth, Nat.mod_eq_of_lt (a := d.toBitVec.toNat) (by have := d.toBitVec.isLt; omega)]
  show (d.toNat : Int) * 2 ^ j % 18446744073709551616 = ((d.toNat * 2 ^ j % 2 ^ 64 : Nat) : Int)
  generalize d.toNat = a
  rw [Int.natCast_emod, Int.natCast_mul, Int.natCast_pow]
  rfl
theorem or_byte (a : BitVec 64) (d : UInt8) (j : Nat) : bits .or .u64 (n64 a) (IntKind.u64.wrap (IntKind.u64.wrap (n8 d) * (2 : Int) ^ j)) = n64 (a ||| ((d.toBitVec.setWidth 64) <<< j)) := by
  rw [wrap_n8, shl_n8, or64]
theorem deTo_succ (l : List UInt8) (k : Nat) (d : UInt8) (h : l[k]? = some d) : deTo l (k + 1) = deTo l k ||| ((d.toBitVec.setWidth 64) <<< (8 * k)) := by
  simp only [deTo]
  rw [h]
  rfl
/-- The four bytes of a number of 32 bits. -/
def le4 (x : BitVec 32) : List UInt8 := leN (x.setWidth 64) 4
def by32 (x : BitVec 32) (k : Nat) : UInt8 := by64 (x.setWidth 64) k
theorem le4_form (x : BitVec 32) : le4 x = [by32 x 0, by32 x 1, by32 x 2, by32 x 3] := rfl
theorem le4_len (x : BitVec 32) : (le4 x).length = 4 := rfl
theorem n8_by32_0 (x : BitVec 32) : n32 x % (256 : Int) = n8 (by32 x 0) := by
  unfold by32
  rw [← n8_by64, n64_wide]
  simp
theorem n8_by32_1 (x : BitVec 32) : n32 x / (256 : Int) % 256 = n8 (by32 x 1) := by
  unfold by32
  rw [← n8_by64, n64_wide, show (2 : Int) ^ (8 * 1) = 256 from by decide]
theorem n8_by32_2 (x : BitVec 32) : n32 x / (65536 : Int) % 256 = n8 (by32 x 2) := by
  unfold by32
  rw [← n8_by64, n64_wide, show (2 : Int) ^ (8 * 2) = 65536 from by decide]
theorem n8_by32_3 (x : BitVec 32) : n32 x / (16777216 : Int) % 256 = n8 (by32 x 3) := by
  unfold by32
  rw [← n8_by64, n64_wide, show (2 : Int) ^ (8 * 3) = 16777216 from by decide]
theorem deN_le4 (x : BitVec 32) : deN (le4 x) = x.setWidth 64 :=
  deN_leN _ 4 (by rw [BitVec.toNat_setWidth, Nat.mod_eq_of_lt (by have := x.isLt; omega)]; have := x.isLt; omega)

theorem shl_toNat (d : UInt8) (k : Nat) (hk : k < 8) : ((d.toBitVec.setWidth 64) <<< (8 * k)).toNat = d.toNat * 2 ^ (8 * k) := by
  rw [BitVec.toNat_shiftLeft, Nat.shiftLeft_eq, BitVec.toNat_setWidth, Nat.mod_eq_of_lt (a := d.toBitVec.toNat) (by have := d.toBitVec.isLt; omega)]
  refine Nat.mod_eq_of_lt ?_
  show d.toNat * 2 ^ (8 * k) < 2 ^ 64
  have h1 : d.toNat < 2 ^ 8 := d.toNat_lt
  calc d.toNat * 2 ^ (8 * k) < 2 ^ 8 * 2 ^ (8 * k) := Nat.mul_lt_mul_of_pos_right h1 (Nat.pow_pos (by omega))
    _ = 2 ^ (8 + 8 * k) := (Nat.pow_add 2 8 (8 * k)).symm
    _ ≤ 2 ^ 64 := Nat.pow_le_pow_right (by omega) (by omega)
theorem deTo_lt (l : List UInt8) (k : Nat) (hk : k ≤ 8) : (deTo l k).toNat < 2 ^ (8 * k) := by
  induction k with
  | zero => simp [deTo]
  | succ k ih =>
    simp only [deTo]
    rw [BitVec.toNat_or]
    refine Nat.or_lt_two_pow (Nat.lt_of_lt_of_le (ih (by omega)) (Nat.pow_le_pow_right (by omega) (by omega))) ?_
    rw [shl_toNat _ _ (by omega)]
    have h1 : (l[k]?.getD 0).toNat < 2 ^ 8 := UInt8.toNat_lt _
    calc (l[k]?.getD 0).toNat * 2 ^ (8 * k) < 2 ^ 8 * 2 ^ (8 * k) := Nat.mul_lt_mul_of_pos_right h1 (Nat.pow_pos (by omega))
      _ = 2 ^ (8 * (k + 1)) := by rw [← Nat.pow_add]; congr 1; omega
theorem deTo_sum (l : List UInt8) (k : Nat) (hk : k < 8) (d : UInt8) (hd : l[k]? = some d) : (deTo l (k + 1)).toNat = (deTo l k).toNat + d.toNat * 2 ^ (8 * k) := by
  rw [deTo_succ l k d hd, BitVec.toNat_or, shl_toNat _ _ hk, Nat.or_comm, nat_join (8 * k) _ _ (Nat.mul_mod_left _ _) (deTo_lt l k (by omega))]
  omega

/-- The number of the first four bytes. -/
def num4 (l : List UInt8) : BitVec 32 := (deN (l.take 4)).setWidth 32
theorem num4_sum (l : List UInt8) (d0 d1 d2 d3 : UInt8) (h0 : l[0]? = some d0) (h1 : l[1]? = some d1) (h2 : l[2]? = some d2) (h3 : l[3]? = some d3) :
    n32 (num4 l) = n8 d0 + n8 d1 * 256 + n8 d2 * 65536 + n8 d3 * 16777216 := by
  have hlen : 4 ≤ l.length := by
    rcases Nat.lt_or_ge 3 l.length with h | h
    · exact h
    · rw [List.getElem?_eq_none h] at h3; cases h3
  have ht : (l.take 4).length = 4 := by rw [List.length_take]; omega
  unfold num4 deN
  rw [ht, deTo_take l 4 4 (Nat.le_refl _)]
  have s0 := deTo_sum l 0 (by omega) d0 h0
  have s1 := deTo_sum l 1 (by omega) d1 h1
  have s2 := deTo_sum l 2 (by omega) d2 h2
  have s3 := deTo_sum l 3 (by omega) d3 h3
  have hz : (deTo l 0).toNat = 0 := rfl
  have e1 : (2 : Nat) ^ (8 * 0) = 1 := by decide
  have e2 : (2 : Nat) ^ (8 * 1) = 256 := by decide
  have e3 : (2 : Nat) ^ (8 * 2) = 65536 := by decide
  have e4 : (2 : Nat) ^ (8 * 3) = 16777216 := by decide
  rw [e1] at s0; rw [e2] at s1; rw [e3] at s2; rw [e4] at s3
  have b0 := d0.toNat_lt; have b1 := d1.toNat_lt; have b2 := d2.toNat_lt; have b3 := d3.toNat_lt
  unfold n32 n8
  rw [BitVec.toNat_setWidth]
  simp only [Nat.zero_add, Nat.reduceAdd] at s0 s1 s2 s3
  omega
theorem num4_le4 (x : BitVec 32) (r : List UInt8) : num4 (le4 x ++ r) = x := by
  unfold num4
  rw [List.take_append_of_le_length (by rw [le4_len]; omega), List.take_of_length_le (by rw [le4_len]; omega), deN_le4]
  apply BitVec.eq_of_toNat_eq
  rw [BitVec.toNat_setWidth, BitVec.toNat_setWidth]
  have := x.isLt
  omega
theorem deN_num4 (l : List UInt8) (h : l.length = 4) : n64 (deN l) = n32 (num4 l) := by
  unfold num4 n64 n32
  rw [List.take_of_length_le (by omega), BitVec.toNat_setWidth]
  have : (deN l).toNat < 2 ^ (8 * 4) := by unfold deN; rw [h]; exact deTo_lt l 4 (by omega)
  rw [Nat.mod_eq_of_lt (by omega)]
end Go.Proofs.Ytalgnfadfngdoaa
