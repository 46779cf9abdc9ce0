/-
  The sum is linear: plain mathematics; and small words for the walk over it (min of four, xor of bytes, a store into a slice of the call's own).
-/
import Derived.Test.YtalgnfadfngdoaaLaw
import Derived.Test.YtalgnfadfngdoaaMake
namespace Go.Proofs.Ytalgnfadfngdoaa
open Go.RowKit

theorem xor8 (a b : UInt8) : bits .xor .u8 (n8 a) (n8 b) = n8 (a ^^^ b) := by
  unfold n8
  rw [u8_xor_nat _ _ (by have := a.toNat_lt; omega) (by have := b.toNat_lt; omega), UInt8.toNat_xor]
theorem inb_xor (r s : BitVec 32) (a b : UInt8) : inb (r ^^^ s) (a ^^^ b) = inb r a ^^^ inb s b := by
  unfold inb
  rw [UInt8.toBitVec_xor, BitVec.setWidth_xor]
  ac_rfl
theorem byt_xor (r s : BitVec 32) (a b : UInt8) : byt (r ^^^ s) (a ^^^ b) = byt r a ^^^ byt s b := by
  unfold byt
  rw [inb_xor, stpN_xor]
theorem crc_lin : ∀ (d a b c : List UInt8) (r s t : BitVec 32), a.length = d.length → b.length = d.length → c.length = d.length →
    (∀ (j : Nat) (x y z : UInt8), a[j]? = some x → b[j]? = some y → c[j]? = some z → d[j]? = some (x ^^^ y ^^^ z)) → crc (r ^^^ s ^^^ t) d = crc r a ^^^ crc s b ^^^ crc t c := by
  intro d
  induction d with
  | nil =>
    intro a b c r s t h1 h2 h3 _
    have e1 : a = [] := List.eq_nil_of_length_eq_zero h1
    have e2 : b = [] := List.eq_nil_of_length_eq_zero h2
    have e3 : c = [] := List.eq_nil_of_length_eq_zero h3
    subst e1 e2 e3
    rfl
  | cons v d ih =>
    intro a b c r s t h1 h2 h3 h
    match a, b, c, h1, h2, h3 with
    | x :: a, y :: b, z :: c, h1, h2, h3 =>
      have hv := h 0 x y z rfl rfl rfl
      simp at hv
      subst hv
      have := ih a b c (byt r x) (byt s y) (byt t z) (by simpa using h1) (by simpa using h2) (by simpa using h3) (fun j p q o hp hq ho => by
        have := h (j + 1) p q o (by simpa using hp) (by simpa using hq) (by simpa using ho)
        simpa using this)
      show crc (byt (r ^^^ s ^^^ t) (x ^^^ y ^^^ z)) d = _
      rw [byt_xor, byt_xor, this]
      rfl
theorem sumF_lin (d a b c : List UInt8) (h1 : a.length = d.length) (h2 : b.length = d.length) (h3 : c.length = d.length)
    (h : ∀ (j : Nat) (x y z : UInt8), a[j]? = some x → b[j]? = some y → c[j]? = some z → d[j]? = some (x ^^^ y ^^^ z)) : sumF d = sumF a ^^^ sumF b ^^^ sumF c := by
  have hc := crc_lin d a b c (~~~ 0#32) (~~~ 0#32) (~~~ 0#32) h1 h2 h3 h
  have hones : (~~~ 0#32) ^^^ (~~~ 0#32) ^^^ (~~~ 0#32) = ~~~ 0#32 := by decide
  rw [hones] at hc
  unfold sumF addF
  rw [hc]
  generalize crc (~~~ 0#32) a = x
  generalize crc (~~~ 0#32) b = y
  generalize crc (~~~ 0#32) c = z
  ext i hi
  simp

theorem run_min4 {P : Program} (ts : Array TypeId) (t : TypeId) (a b c d : Nat) (w : World) :
    (Builtin.min_ ts t #[.int .i64 (a : Int), .int .i64 (b : Int), .int .i64 (c : Int), .int .i64 (d : Int)]).run P w = .ok (.int .i64 ((min (min (min a b) c) d : Nat) : Int)) w := by
  have h : ∀ x y : Nat, (if (y : Int) < (x : Int) then (y : Int) else (x : Int)) = ((min x y : Nat) : Int) := by
    intro x y
    split <;> omega
  simp only [Builtin.min_, Builtin.min2, List.foldlM, Sem.run_bind, Sem.run_pure, Result.andThen_ok, h]

/-- A store into a slice of the call's own. -/
theorem Own.stored {w : World} {base g n c : Nat} {E : TypeId} {l : List UInt8} (h : Own w base E (some ⟨g, 0, none⟩) n c l) (j : Nat) (d : UInt8) :
    Own (w.setCell ⟨g, j, none⟩ (.int .u8 (n8 d))) base E (some ⟨g, 0, none⟩) n c (l.set j d) := by
  have hcap : ∃ cap, c = cap := ⟨c, rfl⟩
  have h1 := (World.ownsRow.stored (w := w) (base := base) (e := E) (size := 1) (g := g) (n := n) (cap := c) h j (u8v d)).1
  unfold Own
  rw [List.map_set]
  exact h1
end Go.Proofs.Ytalgnfadfngdoaa
