/-
  Numbers as bytes, the lowest first, and back: plain mathematics, and the walk's spelling of it.
-/
import Derived.Test.YtjmpolabpgmjpaaBits
namespace Go.Proofs.Ytjmpolabpgmjpaa

/-- A number of 64 bits as the walk's number. -/
def n64 (x : BitVec 64) : Int := x.toNat
theorem n64_lo (x : BitVec 64) : 0 ≤ n64 x := by unfold n64; omega
theorem n64_hi (x : BitVec 64) : n64 x < 18446744073709551616 := by unfold n64; have := x.isLt; omega
theorem n64_inj {a b : BitVec 64} (h : n64 a = n64 b) : a = b := by
  unfold n64 at h
  exact BitVec.eq_of_toNat_eq (by omega)
theorem n64_of (k : Nat) (h : k < 18446744073709551616) : n64 (BitVec.ofNat 64 k) = (k : Int) := by
  unfold n64
  rw [BitVec.toNat_ofNat, Nat.mod_eq_of_lt (by omega)]
/-- Byte k of a number, from the lowest on. -/
def by64 (x : BitVec 64) (k : Nat) : UInt8 := UInt8.ofBitVec ((x >>> (8 * k)).setWidth 8)
theorem n8_by64 (x : BitVec 64) (k : Nat) : n64 x / (2 : Int) ^ (8 * k) % 256 = n8 (by64 x k) := by
  unfold n64 n8 by64
  have h : (UInt8.ofBitVec ((x >>> (8 * k)).setWidth 8)).toNat = x.toNat / 2 ^ (8 * k) % 256 := by
    show ((x >>> (8 * k)).setWidth 8).toNat = _
    rw [BitVec.toNat_setWidth, BitVec.toNat_ushiftRight, Nat.shiftRight_eq_div_pow]
  rw [h]
  generalize x.toNat = a
  generalize 8 * k = j
  rw [Int.natCast_emod, Int.natCast_ediv, Int.natCast_pow]
  rfl
/-- The lowest k bytes, the lowest first. -/
def leN (x : BitVec 64) (k : Nat) : List UInt8 := (List.range k).map (by64 x)
theorem leN_zero (x : BitVec 64) : leN x 0 = [] := rfl
theorem leN_succ (x : BitVec 64) (k : Nat) : leN x (k + 1) = leN x k ++ [by64 x k] := by
  unfold leN
  rw [List.range_succ, List.map_append]
  rfl
theorem leN_len (x : BitVec 64) (k : Nat) : (leN x k).length = k := by simp [leN]

/-- The number of bytes, the lowest first: the first k of them. -/
def deTo (l : List UInt8) : Nat → BitVec 64
  | 0 => 0#64
  | k + 1 => deTo l k ||| (((l[k]?.getD 0).toBitVec.setWidth 64) <<< (8 * k))
def deN (l : List UInt8) : BitVec 64 := deTo l l.length

theorem deTo_bit (x : BitVec 64) (m k i : Nat) (hk : k ≤ m) : (deTo (leN x m) k).getLsbD i = (decide (i < 8 * k) && x.getLsbD i) := by
  induction k with
  | zero => simp [deTo]
  | succ k ih =>
    simp only [deTo]
    rw [BitVec.getLsbD_or, ih (by omega), BitVec.getLsbD_shiftLeft]
    have hg : (leN x m)[k]?.getD 0 = by64 x k := by
      unfold leN
      rw [List.getElem?_map, List.getElem?_range (by omega)]
      rfl
    rw [hg]
    have hb : ((by64 x k).toBitVec.setWidth 64).getLsbD (i - 8 * k) = (decide (i - 8 * k < 8) && x.getLsbD (8 * k + (i - 8 * k))) := by
      show ((((x >>> (8 * k)).setWidth 8)).setWidth 64).getLsbD (i - 8 * k) = _
      rw [BitVec.getLsbD_setWidth, BitVec.getLsbD_setWidth, BitVec.getLsbD_ushiftRight]
      by_cases h : i - 8 * k < 8
      · simp [h, show i - 8 * k < 64 from by omega]
      · simp [h]
    rw [hb]
    by_cases h1 : i < 8 * k
    · simp [h1, show i < 8 * (k + 1) from by omega]
    · rw [show 8 * k + (i - 8 * k) = i from by omega]
      by_cases h2 : i < 64
      · by_cases h3 : i < 8 * (k + 1)
        · simp [h1, h2, h3, show i - 8 * k < 8 from by omega]
        · simp [h1, h3, show ¬ i - 8 * k < 8 from by omega]
      · rw [BitVec.getLsbD_of_ge x i (by omega)]
        simp
/-- A number comes back from its bytes, where they hold all of it. -/
theorem deN_leN (x : BitVec 64) (m : Nat) (h : x.toNat < 2 ^ (8 * m)) : deN (leN x m) = x := by
  unfold deN
  rw [leN_len]
  apply BitVec.eq_of_getLsbD_eq
  intro i hi
  rw [deTo_bit x m m i (Nat.le_refl _)]
  by_cases h1 : i < 8 * m
  · simp [h1]
  · have : x.getLsbD i = false := by
      rw [BitVec.getLsbD]
      exact Nat.testBit_lt_two_pow (Nat.lt_of_lt_of_le h (Nat.pow_le_pow_right (by omega) (by omega)))
    simp [h1, this]
theorem deTo_take (l : List UInt8) (k : Nat) : ∀ j, j ≤ k → deTo (l.take k) j = deTo l j := by
  intro j
  induction j with
  | zero => intro _; rfl
  | succ j ih =>
    intro hj
    simp only [deTo]
    rw [ih (by omega), List.getElem?_take, if_pos (by omega)]

theorem or64 (a b : BitVec 64) : bits .or .u64 (n64 a) (n64 b) = n64 (a ||| b) := by
  unfold n64
  rw [u64_or_nat _ _ (by have := a.isLt; omega) (by have := b.isLt; omega), BitVec.toNat_or]
theorem xor64 (a b : BitVec 64) : bits .xor .u64 (n64 a) (n64 b) = n64 (a ^^^ b) := by
  unfold n64
  rw [u64_xor_nat _ _ (by have := a.isLt; omega) (by have := b.isLt; omega), BitVec.toNat_xor]
theorem wrap_n8 (d : UInt8) : IntKind.u64.wrap (n8 d) = n8 d := by
  rw [IntKind.wrap_u64]
  have := n8_lo d
  have := n8_hi d
  omega
theorem shl_n8 (d : UInt8) (j : Nat) : IntKind.u64.wrap (n8 d * (2 : Int) ^ j) = n64 ((d.toBitVec.setWidth 64) <<< j) := by
  rw [IntKind.wrap_u64]
  unfold n64 n8
  rw [BitVec.toNat_shiftLeft, Nat.shiftLeft_eq, BitVec.toNat_setWidth, Nat.mod_eq_of_lt (a := d.toBitVec.toNat) (by have := d.toBitVec.isLt; omega)]
  show (d.toNat : Int) * 2 ^ j % 18446744073709551616 = ((d.toNat * 2 ^ j % 2 ^ 64 : Nat) : Int)
  generalize d.toNat = a
  rw [Int.natCast_emod, Int.natCast_mul, Int.natCast_pow]
  rfl
theorem or_byte (a : BitVec 64) (d : UInt8) (j : Nat) : bits .or .u64 (n64 a) (IntKind.u64.wrap (IntKind.u64.wrap (n8 d) * (2 : Int) ^ j)) = n64 (a ||| ((d.toBitVec.setWidth 64) <<< j)) := by
  rw [wrap_n8, shl_n8, or64]
theorem deTo_succ (l : List UInt8) (k : Nat) (d : UInt8) (h : l[k]? = some d) : deTo l (k + 1) = deTo l k ||| ((d.toBitVec.setWidth 64) <<< (8 * k)) := by
  simp only [deTo]
  rw [h]
  rfl

theorem shl_toNat (d : UInt8) (k : Nat) (hk : k < 8) : ((d.toBitVec.setWidth 64) <<< (8 * k)).toNat = d.toNat * 2 ^ (8 * k) := by
  rw [BitVec.toNat_shiftLeft, Nat.shiftLeft_eq, BitVec.toNat_setWidth, Nat.mod_eq_of_lt (a := d.toBitVec.toNat) (by have := d.toBitVec.isLt; omega)]
  refine Nat.mod_eq_of_lt ?_
  show d.toNat * 2 ^ (8 * k) < 2 ^ 64
  have h1 : d.toNat < 2 ^ 8 := d.toNat_lt
  calc d.toNat * 2 ^ (8 * k) < 2 ^ 8 * 2 ^ (8 * k) := Nat.mul_lt_mul_of_pos_right h1 (Nat.pow_pos (by omega))
    _ = 2 ^ (8 + 8 * k) := (Nat.pow_add 2 8 (8 * k)).symm
    _ ≤ 2 ^ 64 := Nat.pow_le_pow_right (by omega) (by omega)
theorem deTo_lt (l : List UInt8) (k : Nat) (hk : k ≤ 8) : (deTo l k).toNat < 2 ^ (8 * k) := by
  induction k with
  | zero => simp [deTo]
  | succ k ih =>
    simp only [deTo]
    rw [BitVec.toNat_or]
    refine Nat.or_lt_two_pow (Nat.lt_of_lt_of_le (ih (by omega)) (Nat.pow_le_pow_right (by omega) (by omega))) ?_
    rw [shl_toNat _ _ (by omega)]
    have h1 : (l[k]?.getD 0).toNat < 2 ^ 8 := UInt8.toNat_lt _
    calc (l[k]?.getD 0).toNat * 2 ^ (8 * k) < 2 ^ 8 * 2 ^ (8 * k) := Nat.mul_lt_mul_of_pos_right h1 (Nat.pow_pos (by omega))
      _ = 2 ^ (8 * (k + 1)) := by rw [← Nat.pow_add]; congr 1; omega
theorem deTo_sum (l : List UInt8) (k : Nat) (hk : k < 8) (d : UInt8) (hd : l[k]? = some d) : (deTo l (k + 1)).toNat = (deTo l k).toNat + d.toNat * 2 ^ (8 * k) := by
  rw [deTo_succ l k d hd, BitVec.toNat_or, shl_toNat _ _ hk, Nat.or_comm, nat_join (8 * k) _ _ (Nat.mul_mod_left _ _) (deTo_lt l k (by omega))]
  omega

end Go.Proofs.Ytjmpolabpgmjpaa
