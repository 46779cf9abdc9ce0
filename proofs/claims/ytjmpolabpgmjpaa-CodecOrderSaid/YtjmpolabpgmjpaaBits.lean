/-
  Bytes as the walk's numbers.
-/
import Derived.WalkKit
namespace Go.Proofs.Ytjmpolabpgmjpaa

/-- A byte as the walk's number. -/
def n8 (c : UInt8) : Int := c.toNat
theorem n8_lo (c : UInt8) : 0 ≤ n8 c := by unfold n8; omega
theorem n8_hi (c : UInt8) : n8 c < 256 := by unfold n8; have := c.toNat_lt; omega
theorem n8_inj {a b : UInt8} (h : n8 a = n8 b) : a = b := by
  unfold n8 at h
  exact UInt8.toNat_inj.1 (by omega)
theorem n8_beq (a b : UInt8) : (n8 a == n8 b) = (a == b) := by
  rw [Bool.eq_iff_iff]
  simp only [beq_iff_eq]
  exact ⟨n8_inj, fun h => by rw [h]⟩
theorem n8_of (k : Nat) (h : k < 256) : n8 (UInt8.ofNat k) = (k : Int) := by
  unfold n8
  rw [UInt8.toNat_ofNat_of_lt' (by simpa using h)]
end Go.Proofs.Ytjmpolabpgmjpaa
