/-
  Numbers of the walk as bit vectors and bytes: what each operation of the sums makes of them.
-/
import Derived.Test.YtalgnfadfngdoaaPlain
import Derived.WalkKit
namespace Go.Proofs.Ytalgnfadfngdoaa

/-- A register of 32 bits as the walk's number. -/
def n32 (x : BitVec 32) : Int := x.toNat
/-- A byte as the walk's number. -/
def n8 (c : UInt8) : Int := c.toNat

theorem n32_lo (x : BitVec 32) : 0 ≤ n32 x := by unfold n32; omega
theorem n32_hi (x : BitVec 32) : n32 x < 4294967296 := by unfold n32; have := x.isLt; omega
theorem n8_lo (c : UInt8) : 0 ≤ n8 c := by unfold n8; omega
theorem n8_hi (c : UInt8) : n8 c < 256 := by unfold n8; have := c.toNat_lt; omega
theorem n32_mod (x : BitVec 32) : n32 x % 4294967296 = n32 x := by
  have := n32_lo x; have := n32_hi x; omega
theorem n32_inj {a b : BitVec 32} (h : n32 a = n32 b) : a = b := by
  unfold n32 at h
  exact BitVec.eq_of_toNat_eq (by omega)
theorem n32_beq (a b : BitVec 32) : (n32 a == n32 b) = (a == b) := by
  rw [Bool.eq_iff_iff]
  simp only [beq_iff_eq]
  exact ⟨n32_inj, fun h => by rw [h]⟩
theorem n8_inj {a b : UInt8} (h : n8 a = n8 b) : a = b := by
  unfold n8 at h
  exact UInt8.toNat_inj.1 (by omega)
theorem n32_of (k : Nat) (h : k < 4294967296) : n32 (BitVec.ofNat 32 k) = (k : Int) := by
  unfold n32
  rw [BitVec.toNat_ofNat, Nat.mod_eq_of_lt (by omega)]
theorem n32_lit (x : Int) (h0 : 0 ≤ x) (h1 : x < 4294967296) : n32 (BitVec.ofNat 32 x.toNat) = x := by
  rw [n32_of _ (by omega)]; omega

theorem xor32 (a b : BitVec 32) : bits .xor .u32 (n32 a) (n32 b) = n32 (a ^^^ b) := by
  unfold n32
  rw [u32_xor_nat _ _ (by have := a.isLt; omega) (by have := b.isLt; omega), BitVec.toNat_xor]
theorem not32 (a : BitVec 32) : bits .xor .u32 IntKind.u32.max (n32 a) = n32 (~~~ a) := by
  have h : IntKind.u32.max = n32 (BitVec.allOnes 32) := by decide
  rw [h, xor32, BitVec.allOnes_xor]
theorem poly32 (a : BitVec 32) : bits .xor .u32 (n32 a) 3988292384 = n32 (a ^^^ 0xEDB88320#32) := by
  have h : (3988292384 : Int) = n32 0xEDB88320#32 := by decide
  rw [h, xor32]
theorem and32 (a b : BitVec 32) : bits .and .u32 (n32 a) (n32 b) = n32 (a &&& b) := by
  unfold n32
  rw [u32_and_nat _ _ (by have := a.isLt; omega) (by have := b.isLt; omega), BitVec.toNat_and]
theorem and32_15 (a : BitVec 32) : bits .and .u32 (n32 a) 15 = n32 (a &&& 15#32) := by
  have h : (15 : Int) = n32 15#32 := by decide
  rw [h, and32]
theorem and32_15_nat (a : BitVec 32) : ∃ j : Nat, j < 16 ∧ a &&& 15#32 = BitVec.ofNat 32 j ∧ n32 (a &&& 15#32) = (j : Int) := by
  have h : (a &&& 15#32).toNat < 16 := by
    rw [BitVec.toNat_and]
    have : a.toNat &&& (15#32).toNat ≤ 15 := Nat.and_le_right
    omega
  exact ⟨(a &&& 15#32).toNat, h, by simp, rfl⟩
theorem and32_1 (a : BitVec 32) : bits .and .u32 (n32 a) 1 = if a.getLsbD 0 then 1 else 0 := by
  have h : (1 : Int) = n32 1#32 := by decide
  conv => lhs; rw [h]
  rw [and32]
  unfold n32
  rw [BitVec.toNat_and]
  simp only [BitVec.getLsbD, Nat.testBit_zero]
  show ((a.toNat &&& 1 : Nat) : Int) = _
  rw [nat_mask1]
  have := Nat.mod_two_eq_zero_or_one a.toNat
  rcases this with e | e <;> simp [e]
theorem half32 (a : BitVec 32) : n32 a / (2 : Int) = n32 (a >>> 1) := by
  unfold n32
  rw [BitVec.toNat_ushiftRight, Nat.shiftRight_eq_div_pow]
  omega
theorem shr32_4 (a : BitVec 32) : n32 a / (16 : Int) = n32 (a >>> 4) := by
  unfold n32
  rw [BitVec.toNat_ushiftRight, Nat.shiftRight_eq_div_pow]
  omega
theorem rem32 (a : BitVec 32) : n32 a % (2 : Int) = if a.getLsbD 0 then 1 else 0 := by
  unfold n32
  simp only [BitVec.getLsbD, Nat.testBit_zero]
  have := Nat.mod_two_eq_zero_or_one a.toNat
  rcases this with e | e <;> simp [e] <;> omega
theorem n8_mod32 (c : UInt8) : n8 c % 4294967296 = n8 c := by
  have := n8_lo c; have := n8_hi c; omega
theorem inb32 (a : BitVec 32) (c : UInt8) : bits .xor .u32 (n32 a) (n8 c) = n32 (inb a c) := by
  have h : n8 c = n32 (c.toBitVec.setWidth 32) := by
    unfold n8 n32
    rw [BitVec.toNat_setWidth, Nat.mod_eq_of_lt (by have := c.toBitVec.isLt; omega)]
    rfl
  rw [h, xor32]; rfl

theorem thalf32 (a : BitVec 32) : (n32 a).tdiv 2 = n32 (a >>> 1) := by
  rw [Int.tdiv_eq_ediv_of_nonneg (n32_lo a)]; exact half32 a

/-- The bit that goes out. -/
def odd32 (a : BitVec 32) : Bool := a.getLsbD 0
theorem odd_rem (a : BitVec 32) : (n32 a % (2 : Int) == 1) = odd32 a := by
  rw [rem32]
  unfold odd32
  cases a.getLsbD 0 <;> rfl
theorem odd_tmod (a : BitVec 32) : ((n32 a).tmod 2 == 1) = odd32 a := by
  rw [Int.tmod_eq_emod_of_nonneg (n32_lo a)]; exact odd_rem a
theorem odd_and (a : BitVec 32) : (bits .and .u32 (n32 a) 1 == 1) = odd32 a := by
  rw [and32_1]
  unfold odd32
  cases a.getLsbD 0 <;> rfl
/-- One step, by the bit that goes out. -/
theorem stp_one (a : BitVec 32) (h : odd32 a = true) : stp a = (a >>> 1) ^^^ 0xEDB88320#32 := by unfold odd32 at h; unfold stp; rw [h]; rfl
theorem stp_nil (a : BitVec 32) (h : odd32 a = false) : stp a = a >>> 1 := by unfold odd32 at h; unfold stp; rw [h]; simp

end Go.Proofs.Ytalgnfadfngdoaa
