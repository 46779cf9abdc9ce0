/-
  Turned bits within 32 neighbouring ones are always told: plain mathematics. The step of the register is one to one; a turned bit moves the register behind the whole frame by a power of the step; turned bits within a window move it by the step's power at the window's number, which is nought for nought alone.
-/
import Derived.Test.YtalgnfadfngdoaaLaw
namespace Go.Proofs.Ytalgnfadfngdoaa

theorem stp_one_to_one (x : BitVec 32) (h : stp x = 0#32) : x = 0#32 := by
  have hb : ∀ i, (stp x).getLsbD i = false := by intro i; rw [h]; simp
  have h31 := hb 31
  unfold stp at h31 hb
  rw [BitVec.getLsbD_xor, BitVec.getLsbD_ushiftRight] at h31
  have ho : x.getLsbD 0 = false := by
    cases hx : x.getLsbD 0 with
    | false => rfl
    | true =>
      rw [hx] at h31
      rw [BitVec.getLsbD_of_ge x (1 + 31) (by omega)] at h31
      revert h31
      decide
  apply BitVec.eq_of_getLsbD_eq
  intro i hi
  rw [BitVec.getLsbD_zero]
  cases i with
  | zero => exact ho
  | succ i =>
    have hi2 := hb i
    rw [ho, BitVec.getLsbD_xor, BitVec.getLsbD_ushiftRight] at hi2
    simp at hi2
    rw [Nat.add_comm]
    exact hi2
theorem stpN_one_to_one (k : Nat) (x : BitVec 32) (h : stpN k x = 0#32) : x = 0#32 := by
  induction k with
  | zero => exact h
  | succ k ih => exact ih (stp_one_to_one _ h)
theorem xor_nought (a b : BitVec 32) (h : a ^^^ b = 0#32) : a = b := by
  have := congrArg (· ^^^ b) h
  simpa [BitVec.xor_assoc] using this
theorem stpN_inj (k : Nat) (a b : BitVec 32) (h : stpN k a = stpN k b) : a = b := by
  apply xor_nought
  apply stpN_one_to_one k
  rw [stpN_xor, h, BitVec.xor_self]

/-- A turn of the register goes on by the step's power. -/
theorem byt_reg (x y : BitVec 32) (c : UInt8) : byt (x ^^^ y) c = byt x c ^^^ stpN 8 y := by
  unfold byt
  rw [show inb (x ^^^ y) c = inb x c ^^^ y from by unfold inb; ac_rfl, stpN_xor]
theorem crc_reg (l : List UInt8) : ∀ x y : BitVec 32, crc (x ^^^ y) l = crc x l ^^^ stpN (8 * l.length) y := by
  induction l with
  | nil => intro x y; rfl
  | cons c l ih =>
    intro x y
    show crc (byt (x ^^^ y) c) l = crc (byt x c) l ^^^ _
    rw [byt_reg, ih, ← stpN_add]
    rw [List.length_cons, Nat.mul_add]
/-- One byte that is turned. -/
theorem crc_set (l : List UInt8) : ∀ (r : BitVec 32) (q : Nat) (c d : UInt8), l[q]? = some c →
    crc r (l.set q (c ^^^ d)) = crc r l ^^^ stpN (8 * (l.length - q)) (d.toBitVec.setWidth 32) := by
  induction l with
  | nil => intro r q c d h; simp at h
  | cons v l ih =>
    intro r q c d h
    cases q with
    | zero =>
      simp at h
      subst h
      show crc (byt r (v ^^^ d)) l = crc (byt r v) l ^^^ _
      have hb : byt r (v ^^^ d) = byt r v ^^^ stpN 8 (d.toBitVec.setWidth 32) := by
        unfold byt
        rw [show inb r (v ^^^ d) = inb r v ^^^ d.toBitVec.setWidth 32 from by
          unfold inb; rw [UInt8.toBitVec_xor, BitVec.setWidth_xor]; ac_rfl, stpN_xor]
      rw [hb, crc_reg, ← stpN_add]
      simp only [List.length_cons, Nat.sub_zero, Nat.mul_add, Nat.mul_one]
    | succ q =>
      simp only [List.set_cons_succ, List.length_cons, Nat.add_sub_add_right]
      exact ih (byt r v) q c d (by simpa using h)

/-- A single bit, gone on by as many steps as it stands from the lowest. -/
theorem stpN_bit (j : Nat) (hj : j < 32) : stpN j (1#32 <<< j) = 1#32 := by
  rw [stpN_low j _ (by
    intro i hi
    rw [BitVec.getLsbD_shiftLeft]
    simp [hi])]
  apply BitVec.eq_of_getLsbD_eq
  intro i hi
  rw [BitVec.getLsbD_ushiftRight, BitVec.getLsbD_shiftLeft]
  by_cases h : j + i < 32
  · simp [h]
  · rw [BitVec.getLsbD_one]
    simp [h]
    omega
theorem stpN_bit_at (m j : Nat) (hm : j ≤ m) (hj : j < 32) : stpN m (1#32 <<< j) = stpN (m - j) 1#32 := by
  conv => lhs; rw [show m = (m - j) + j from by omega, stpN_add, stpN_bit j hj]

/-- Bit k of bytes (from the lowest one of each byte on) is turned. -/
def bit8 (j : Nat) : UInt8 := UInt8.ofBitVec (1#8 <<< j)
def flipAt (l : List UInt8) (k : Nat) : List UInt8 := l.set (k / 8) ((l[k / 8]?.getD 0) ^^^ bit8 (k % 8))
theorem flipAt_len (l : List UInt8) (k : Nat) : (flipAt l k).length = l.length := by simp [flipAt]
theorem flipAt_take (l : List UInt8) (k : Nat) (hk : 32 ≤ k) : (flipAt l k).take 4 = l.take 4 := by
  unfold flipAt
  rw [List.take_set_of_le (by omega)]
theorem bit8_wide (j : Nat) (hj : j < 8) : (bit8 j).toBitVec.setWidth 32 = 1#32 <<< j := by
  have h : ∀ j : Fin 8, (bit8 j.val).toBitVec.setWidth 32 = 1#32 <<< j.val := by decide
  exact h ⟨j, hj⟩
theorem crc_flip (l : List UInt8) (r : BitVec 32) (k : Nat) (hk : k < 8 * l.length) : crc r (flipAt l k) = crc r l ^^^ stpN (8 * l.length - k) 1#32 := by
  have hq : k / 8 < l.length := by omega
  unfold flipAt
  rw [List.getElem?_eq_getElem hq]
  simp only [Option.getD_some]
  rw [crc_set l r (k / 8) _ _ (List.getElem?_eq_getElem hq), bit8_wide _ (Nat.mod_lt _ (by omega)), stpN_bit_at _ _ (by omega) (by have := Nat.mod_lt k (show 0 < 8 by omega); omega)]
  rw [show 8 * (l.length - k / 8) - k % 8 = 8 * l.length - k from by omega]

/-- Four bytes of a number go into the register. -/
theorem num4_bit (a b c d : UInt8) : num4 [a, b, c, d] = a.toBitVec.setWidth 32 ^^^ (b.toBitVec.setWidth 32 <<< 8) ^^^ (c.toBitVec.setWidth 32 <<< 16) ^^^ (d.toBitVec.setWidth 32 <<< 24) := by
  unfold num4 deN
  show (deTo [a, b, c, d] 4).setWidth 32 = _
  simp only [deTo, List.getElem?_cons_zero, List.getElem?_cons_succ, Option.getD_some]
  apply BitVec.eq_of_getLsbD_eq
  intro i hi
  simp only [BitVec.getLsbD_setWidth, BitVec.getLsbD_or, BitVec.getLsbD_xor, BitVec.getLsbD_shiftLeft, BitVec.getLsbD_zero]
  have ga : ∀ (x : UInt8) (j : Nat), 8 ≤ j → x.toBitVec.getLsbD j = false := fun x j hj => BitVec.getLsbD_of_ge _ _ hj
  by_cases h1 : i < 8
  · simp [hi, h1, show i < 16 from by omega, show i < 24 from by omega, show i < 64 from by omega]
  · by_cases h2 : i < 16
    · simp [hi, h1, h2, show i < 24 from by omega, show i < 64 from by omega, ga a i (by omega), show i - 8 < 64 from by omega, show i - 8 < 32 from by omega]
    · by_cases h3 : i < 24
      · simp [hi, h1, h2, h3, show i < 64 from by omega, ga a i (by omega), ga b (i - 8) (by omega), show i - 16 < 64 from by omega, show i - 16 < 32 from by omega]
      · simp [hi, h1, h2, h3, show i < 64 from by omega, ga a i (by omega), ga b (i - 8) (by omega), ga c (i - 16) (by omega), show i - 24 < 64 from by omega, show i - 24 < 32 from by omega]
theorem stpN_byte (j : Nat) (hj : j ≤ 24) (c : UInt8) : stpN j (c.toBitVec.setWidth 32 <<< j) = c.toBitVec.setWidth 32 := by
  rw [stpN_low j _ (by
    intro i hi
    rw [BitVec.getLsbD_shiftLeft]
    simp [hi])]
  apply BitVec.eq_of_getLsbD_eq
  intro i hi
  rw [BitVec.getLsbD_ushiftRight, BitVec.getLsbD_shiftLeft]
  by_cases h : j + i < 32
  · simp [h]
  · have hz : (BitVec.setWidth 32 c.toBitVec).getLsbD i = false := by
      rw [BitVec.getLsbD_setWidth, BitVec.getLsbD_of_ge c.toBitVec i (by omega)]
      simp
    rw [hz]
    simp [h]
theorem stpN_byte_at (m j : Nat) (hm : j ≤ m) (hj : j ≤ 24) (c : UInt8) : stpN m (c.toBitVec.setWidth 32 <<< j) = stpN (m - j) (c.toBitVec.setWidth 32) := by
  conv => lhs; rw [show m = (m - j) + j from by omega, stpN_add, stpN_byte j hj]
theorem crc_four (r : BitVec 32) (a b c d : UInt8) : crc r [a, b, c, d] = stpN 32 (r ^^^ num4 [a, b, c, d]) := by
  rw [num4_bit]
  show byt (byt (byt (byt r a) b) c) d = _
  simp only [byt, inb, stpN_xor, ← stpN_add]
  rw [stpN_byte_at 32 8 (by omega) (by omega), stpN_byte_at 32 16 (by omega) (by omega), stpN_byte_at 32 24 (by omega) (by omega)]
  simp only [Nat.reduceAdd, Nat.reduceSub]
  ac_rfl

def ones : BitVec 32 := ~~~ 0#32
/-- A sum is right just where the register behind the sum's four bytes is what it must be. -/
theorem sum_iff (D S : List UInt8) (hS : S.length = 4) : sumF D = num4 S ↔ crc ones (D ++ S) = stpN 32 ones := by
  match S, hS with
  | [a, b, c, d], _ =>
    rw [crc_append, crc_four]
    have hs : sumF D = ~~~ crc ones D := rfl
    rw [hs]
    generalize crc ones D = x
    generalize num4 [a, b, c, d] = y
    have hones : ∀ z : BitVec 32, ~~~ z = z ^^^ ones := by
      intro z
      rw [show ones = BitVec.allOnes 32 from by decide, BitVec.xor_allOnes]
    constructor
    · intro h
      rw [← h, hones, ← BitVec.xor_assoc, BitVec.xor_self, BitVec.zero_xor]
    · intro h
      have := stpN_inj 32 _ _ h
      have h2 := congrArg (x ^^^ ·) this
      simp only [← BitVec.xor_assoc, BitVec.xor_self, BitVec.zero_xor] at h2
      rw [h2, hones]

/-- The reader's answer, of bytes that begin with a true length. -/
theorem uwErr_reg (F : List UInt8) (L : Nat) (hL : L ≤ 65536) (hlen : F.length = L + 8) (hn : (num4 F).toNat = L) : uwErr F = if crc ones F = stpN 32 ones then 0 else 22 := by
  unfold uwErr
  rw [if_neg (by omega), if_neg (by omega), if_neg (by omega), hn]
  have hiff := sum_iff (F.take (L + 4)) (F.drop (L + 4)) (by rw [List.length_drop]; omega)
  rw [List.take_append_drop] at hiff
  by_cases h : crc ones F = stpN 32 ones
  · rw [if_pos h, if_pos (hiff.2 h)]
  · rw [if_neg h, if_neg (fun hh => h (hiff.1 hh))]

/-- The low bits of a number, and the bits of a window that are turned. -/
def mk (t : BitVec 32) : Nat → BitVec 32
  | 0 => 0#32
  | i + 1 => if t.getLsbD i then mk t i ^^^ (1#32 <<< i) else mk t i
theorem mk_bit (t : BitVec 32) (i : Nat) : ∀ j, j < 32 → (mk t i).getLsbD j = (decide (j < i) && t.getLsbD j) := by
  induction i with
  | zero => intro j _; simp [mk]
  | succ i ih =>
    intro j hj
    simp only [mk]
    by_cases ht : t.getLsbD i
    · rw [if_pos ht, BitVec.getLsbD_xor, ih j hj, BitVec.getLsbD_shiftLeft, BitVec.getLsbD_one]
      by_cases e : j = i
      · subst e
        simp [hj, ht]
      · by_cases h : j < i
        · simp [h, hj, show j < i + 1 from by omega]
        · simp [h, show ¬ j < i + 1 from by omega, show ¬ j - i = 0 from by omega]
    · rw [if_neg ht, ih j hj]
      by_cases e : j = i
      · subst e
        simp [ht]
      · by_cases h : j < i
        · simp [h, show j < i + 1 from by omega]
        · simp [h, show ¬ j < i + 1 from by omega]
/-- Some of the first i bits is set. -/
def some_ (t : BitVec 32) (i : Nat) : Bool := mk t i != 0#32
theorem some_zero (t : BitVec 32) : some_ t 0 = false := rfl
theorem some_set (t : BitVec 32) (i : Nat) (hi : i < 32) (h : t.getLsbD i = true) : some_ t (i + 1) = true := by
  unfold some_
  rw [bne_iff_ne]
  intro h0
  have := mk_bit t (i + 1) i hi
  rw [h0, h] at this
  simp at this
theorem some_clear (t : BitVec 32) (i : Nat) (h : t.getLsbD i = false) : some_ t (i + 1) = some_ t i := by
  unfold some_
  simp only [mk, h]
  rfl

def flipsTo (F : List UInt8) (t : BitVec 32) (p : Nat) : Nat → List UInt8
  | 0 => F
  | i + 1 => if t.getLsbD i then flipAt (flipsTo F t p i) (p + i) else flipsTo F t p i
theorem flipsTo_len (F : List UInt8) (t : BitVec 32) (p i : Nat) : (flipsTo F t p i).length = F.length := by
  induction i with
  | zero => rfl
  | succ i ih =>
    simp only [flipsTo]
    split
    · rw [flipAt_len, ih]
    · exact ih
theorem flipsTo_take (F : List UInt8) (t : BitVec 32) (p i : Nat) (hp : 32 ≤ p) : (flipsTo F t p i).take 4 = F.take 4 := by
  induction i with
  | zero => rfl
  | succ i ih =>
    simp only [flipsTo]
    split
    · rw [flipAt_take _ _ (by omega), ih]
    · exact ih
theorem crc_flips (F : List UInt8) (r : BitVec 32) (t : BitVec 32) (p i : Nat) (hi : i ≤ 32) (hp : p + i ≤ 8 * F.length) :
    crc r (flipsTo F t p i) = crc r F ^^^ stpN (8 * F.length - p) (mk t i) := by
  induction i with
  | zero =>
    show crc r F = crc r F ^^^ stpN _ 0#32
    rw [stpN_zero]
    simp
  | succ i ih =>
    simp only [flipsTo, mk]
    by_cases ht : t.getLsbD i
    · rw [if_pos ht, if_pos ht, crc_flip _ _ _ (by rw [flipsTo_len]; omega), ih (by omega) (by omega), flipsTo_len, stpN_xor, stpN_bit_at _ i (by omega) (by omega)]
      rw [show 8 * F.length - (p + i) = 8 * F.length - p - i from by omega, BitVec.xor_assoc]
    · rw [if_neg ht, if_neg ht]
      exact ih (by omega) (by omega)

/-- Turned bits are told: the reader's answer to a frame some of whose bits in a window behind its length are turned. -/
theorem uwErr_flips (l : List UInt8) (hl : l.length ≤ 65536) (t : BitVec 32) (p i : Nat) (h32 : 32 ≤ p) (hi : i ≤ 32) (hp : p + i ≤ 8 * (l.length + 8)) :
    uwErr (flipsTo (wrapF l) t p i) = if some_ t i then 22 else 0 := by
  have hlen : (wrapF l).length = l.length + 8 := wrapF_len l
  have hn : ∀ F : List UInt8, F.take 4 = (wrapF l).take 4 → (num4 F).toNat = l.length := by
    intro F hF
    have := num4_nat l [] hl
    rw [List.append_nil] at this
    unfold num4 at this ⊢
    rw [hF]
    exact this
  have h0 := uwErr_wrapF l [] hl
  rw [List.append_nil, uwErr_reg _ l.length hl hlen (hn _ rfl)] at h0
  have hreg : crc ones (wrapF l) = stpN 32 ones := by
    by_cases h : crc ones (wrapF l) = stpN 32 ones
    · exact h
    · rw [if_neg h] at h0; cases h0
  rw [uwErr_reg _ l.length hl (by rw [flipsTo_len, hlen]) (hn _ (flipsTo_take _ _ _ _ h32)), crc_flips _ _ _ _ _ hi (by rw [hlen]; omega), hreg]
  unfold some_
  by_cases hm : mk t i = 0#32
  · rw [hm, stpN_zero]
    simp
  · have : ¬ stpN 32 ones ^^^ stpN (8 * (wrapF l).length - p) (mk t i) = stpN 32 ones := by
      intro h
      apply hm
      apply stpN_one_to_one (8 * (wrapF l).length - p)
      have h2 := congrArg (stpN 32 ones ^^^ ·) h
      simp only [← BitVec.xor_assoc, BitVec.xor_self, BitVec.zero_xor] at h2
      exact h2
    rw [if_neg this, if_pos (by rw [bne_iff_ne]; exact hm)]
end Go.Proofs.Ytalgnfadfngdoaa
