/-
  Bytes in order: numbers of the same length stand as their bytes do, the highest first.
-/
import Derived.Test.YtjmpolabpgmjpaaBig
namespace Go.Proofs.Ytjmpolabpgmjpaa

/-- The number of bytes, the highest first. -/
def bev : List UInt8 → Nat
  | [] => 0
  | c :: l => c.toNat * 256 ^ l.length + bev l
theorem bev_lt (l : List UInt8) : bev l < 256 ^ l.length := by
  induction l with
  | nil => simp [bev]
  | cons c l ih =>
    simp only [bev, List.length_cons]
    have hc : c.toNat + 1 ≤ 256 := c.toNat_lt
    have := Nat.mul_le_mul_right (256 ^ l.length) hc
    rw [Nat.add_mul, Nat.one_mul] at this
    rw [Nat.pow_succ]
    omega
theorem less_bev : ∀ (x y : List UInt8), x.length = y.length → Op.bytesLess x y = decide (bev x < bev y) := by
  intro x
  induction x with
  | nil =>
    intro y h
    have : y = [] := List.eq_nil_of_length_eq_zero h.symm
    subst this
    rfl
  | cons a x ih =>
    intro y h
    match y, h with
    | b :: y, h =>
      have hl : x.length = y.length := by simpa using h
      have h1 := bev_lt x
      have h2 := bev_lt y
      have hbx : bev (a :: x) = a.toNat * 256 ^ y.length + bev x := by simp only [bev]; rw [hl]
      have hby : bev (b :: y) = b.toNat * 256 ^ y.length + bev y := rfl
      rw [hbx, hby]
      show (decide (a < b) || (a == b && Op.bytesLess x y)) = _
      rw [ih y hl]
      rw [hl] at h1
      clear hbx hby
      generalize 256 ^ y.length = M at *
      rcases Nat.lt_trichotomy a.toNat b.toNat with hab | hab | hab
      · have hlt : a < b := hab
        have := Nat.mul_le_mul_right M (show a.toNat + 1 ≤ b.toNat from hab)
        rw [Nat.add_mul, Nat.one_mul] at this
        have hgo : a.toNat * M + bev x < b.toNat * M + bev y := by omega
        simp [hlt, hgo]
      · have e : a = b := UInt8.toNat_inj.1 hab
        subst e
        simp
      · have hnlt : ¬ a < b := fun hh => by have : a.toNat < b.toNat := hh; omega
        have hne : ¬ a = b := fun hh => by subst hh; omega
        have := Nat.mul_le_mul_right M (show b.toNat + 1 ≤ a.toNat from hab)
        rw [Nat.add_mul, Nat.one_mul] at this
        have hgo : ¬ a.toNat * M + bev x < b.toNat * M + bev y := by omega
        simp [hnlt, hne, hgo]
theorem bev_snoc (l : List UInt8) (c : UInt8) : bev (l ++ [c]) = bev l * 256 + c.toNat := by
  induction l with
  | nil => simp [bev]
  | cons d l ih =>
    simp only [List.cons_append, bev, List.length_append, List.length_cons, List.length_nil]
    rw [ih, Nat.pow_succ, Nat.add_mul, Nat.mul_assoc]
    omega
theorem by64_nat (x : BitVec 64) (k : Nat) : (by64 x k).toNat = x.toNat / 2 ^ (8 * k) % 256 := by
  show ((x >>> (8 * k)).setWidth 8).toNat = _
  rw [BitVec.toNat_setWidth, BitVec.toNat_ushiftRight, Nat.shiftRight_eq_div_pow]
theorem bev_beTo (x : BitVec 64) (z r : Nat) (hr : r ≤ z) : bev (beTo x z r) = x.toNat / 2 ^ (8 * (z - r)) % 2 ^ (8 * r) := by
  induction r with
  | zero => simp [beTo, bev, Nat.mod_one]
  | succ r ih =>
    rw [beTo_succ, bev_snoc, ih (by omega), by64_nat]
    obtain ⟨m, hm⟩ : ∃ m, m = z - 1 - r := ⟨_, rfl⟩
    rw [show z - r = m + 1 from by omega, show z - (r + 1) = m from by omega, ← hm]
    have e : x.toNat / 2 ^ (8 * (m + 1)) = x.toNat / 2 ^ (8 * m) / 256 := by
      rw [Nat.div_div_eq_div_mul]
      congr 1
      rw [Nat.mul_add, Nat.pow_add]
    rw [e]
    generalize x.toNat / 2 ^ (8 * m) = q
    have e2 : 2 ^ (8 * (r + 1)) = 256 * 2 ^ (8 * r) := by
      rw [Nat.mul_add, Nat.pow_add, Nat.mul_comm]
    rw [e2, Nat.mod_mul]
    omega
theorem bev_be8 (x : BitVec 64) : bev (beTo x 8 8) = x.toNat := by
  rw [bev_beTo x 8 8 (Nat.le_refl _)]
  simp only [Nat.sub_self, Nat.mul_zero, Nat.pow_zero, Nat.div_one]
  exact Nat.mod_eq_of_lt (by have := x.isLt; omega)
theorem xor_top (y : Nat) (h : y < 2 ^ 63) : y ^^^ 2 ^ 63 = y + 2 ^ 63 := by
  have hor : 2 ^ 63 ||| y = 2 ^ 63 + y := nat_join 63 _ _ (Nat.mod_self _) h
  rw [Nat.add_comm, ← hor]
  apply Nat.eq_of_testBit_eq
  intro j
  rw [Nat.testBit_xor, Nat.testBit_or, Nat.testBit_two_pow]
  by_cases hj : 63 = j
  · subst hj
    rw [Nat.testBit_lt_two_pow h]
    simp
  · simp [hj]
/-- A number with the sign's bit turned. -/
theorem turned (n : Int) (h0 : -9223372036854775808 ≤ n) (h1 : n ≤ 9223372036854775807) : ((BitVec.ofInt 64 n ^^^ 9223372036854775808#64).toNat : Int) = n + 9223372036854775808 := by
  have h : BitVec.ofInt 64 n ^^^ 9223372036854775808#64 = BitVec.ofInt 64 (n + 9223372036854775808) := by
    have e : ∀ x : BitVec 64, x ^^^ 9223372036854775808#64 = x + 9223372036854775808#64 := by
      intro x
      apply BitVec.eq_of_toNat_eq
      rw [BitVec.toNat_xor, BitVec.toNat_add]
      have hx := x.isLt
      have h63 : (9223372036854775808#64).toNat = 2 ^ 63 := by decide
      rw [h63]
      by_cases hlo : x.toNat < 2 ^ 63
      · rw [xor_top _ hlo]
        omega
      · obtain ⟨y, hy⟩ : ∃ y, y = x.toNat - 2 ^ 63 := ⟨_, rfl⟩
        have hy2 : y < 2 ^ 63 := by omega
        have hxy : x.toNat = y ^^^ 2 ^ 63 := by rw [xor_top _ hy2]; omega
        rw [hxy, Nat.xor_assoc, Nat.xor_self, Nat.xor_zero, xor_top _ hy2]
        omega
    rw [e, BitVec.ofInt_add]
    rfl
  rw [h, BitVec.toNat_ofInt]
  omega
end Go.Proofs.Ytjmpolabpgmjpaa
