/-
  Plain mathematics of the check sum: a register of 32 bits, one step, eight steps for a byte; the step is linear, and four steps at once are a look into a table of sixteen.
-/
namespace Go.Proofs.Ytalgnfadfngdoaa

/-- One step of the register. -/
def stp (r : BitVec 32) : BitVec 32 := (r >>> 1) ^^^ (if r.getLsbD 0 then 0xEDB88320#32 else 0#32)
def stpN : Nat → BitVec 32 → BitVec 32
  | 0, r => r
  | k + 1, r => stp (stpN k r)
/-- A byte goes into the register. -/
def inb (r : BitVec 32) (c : UInt8) : BitVec 32 := r ^^^ c.toBitVec.setWidth 32
def byt (r : BitVec 32) (c : UInt8) : BitVec 32 := stpN 8 (inb r c)
def crc (r : BitVec 32) (l : List UInt8) : BitVec 32 := l.foldl byt r
/-- The sum, gone on from a sum. -/
def addF (s : BitVec 32) (l : List UInt8) : BitVec 32 := ~~~ crc (~~~ s) l

theorem stp_xor (a b : BitVec 32) : stp (a ^^^ b) = stp a ^^^ stp b := by
  unfold stp
  rw [BitVec.ushiftRight_xor_distrib, BitVec.getLsbD_xor]
  generalize a >>> 1 = x
  generalize b >>> 1 = y
  cases a.getLsbD 0 <;> cases b.getLsbD 0 <;> simp
  · ac_rfl
  · ac_rfl
  · rw [show x ^^^ 3988292384#32 ^^^ (y ^^^ 3988292384#32) = x ^^^ y ^^^ (3988292384#32 ^^^ 3988292384#32) from by ac_rfl]
    simp

theorem stpN_xor (k : Nat) (a b : BitVec 32) : stpN k (a ^^^ b) = stpN k a ^^^ stpN k b := by
  induction k with
  | zero => rfl
  | succ k ih => simp only [stpN]; rw [ih, stp_xor]

theorem stpN_add (j k : Nat) (r : BitVec 32) : stpN (j + k) r = stpN j (stpN k r) := by
  induction j with
  | zero => simp [stpN]
  | succ j ih => rw [Nat.add_right_comm]; simp only [stpN]; rw [ih]

theorem stp_zero : stp 0#32 = 0#32 := by decide
theorem stpN_zero (k : Nat) : stpN k 0#32 = 0#32 := by
  induction k with
  | zero => rfl
  | succ k ih => simp only [stpN]; rw [ih, stp_zero]

/-- Steps over low bits that are nought only shift. -/
theorem stpN_low (k : Nat) (r : BitVec 32) (h : ∀ i, i < k → r.getLsbD i = false) : stpN k r = r >>> k := by
  induction k with
  | zero => simp [stpN]
  | succ k ih =>
    simp only [stpN]
    rw [ih (fun i hi => h i (by omega))]
    unfold stp
    rw [BitVec.getLsbD_ushiftRight, Nat.add_zero, h k (by omega)]
    simp [BitVec.shiftRight_add]

/-- Four steps at one time: a shift and a look into a table. -/
theorem stpN_four (r : BitVec 32) : stpN 4 r = (r >>> 4) ^^^ stpN 4 (r &&& 15#32) := by
  have h : r = ((r >>> 4) <<< 4) ^^^ (r &&& 15#32) := by
    ext i hi
    by_cases h4 : i < 4
    · have : i = 0 ∨ i = 1 ∨ i = 2 ∨ i = 3 := by omega
      rcases this with rfl | rfl | rfl | rfl <;> simp
    · simp only [BitVec.getElem_xor, BitVec.getElem_shiftLeft, BitVec.getElem_and, h4, decide_false, Bool.not_false, Bool.true_and]
      have hz : (15#32)[i] = false := by
        rw [← BitVec.getLsbD_eq_getElem]
        have hh : ∀ i : Fin 32, ¬ i.val < 4 → (15#32).getLsbD i.val = false := by decide
        exact hh ⟨i, hi⟩ h4
      rw [hz, Bool.and_false, Bool.xor_false]
      simp [BitVec.getLsbD_eq_getElem, show 4 + (i - 4) = i from by omega, hi]
  have hl : stpN 4 ((r >>> 4) <<< 4) = r >>> 4 := by
    rw [stpN_low 4 _ (by
      intro i hi
      simp [BitVec.getLsbD_shiftLeft, hi])]
    apply BitVec.eq_of_getLsbD_eq
    intro i hi
    simp only [BitVec.getLsbD_ushiftRight, BitVec.getLsbD_shiftLeft]
    by_cases h5 : 4 + i < 32
    · simp [h5]
    · rw [BitVec.getLsbD_of_ge r (4 + i) (by omega)]
      simp [h5]
  conv => lhs; rw [h]
  rw [stpN_xor, hl]

end Go.Proofs.Ytalgnfadfngdoaa
