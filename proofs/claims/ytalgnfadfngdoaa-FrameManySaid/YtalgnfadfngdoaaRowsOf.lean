/-
  Slices of byte slices that came in; frames one behind the other; the cut 's[k:]' under one name.
-/
import Derived.Test.YtalgnfadfngdoaaOpen
import Derived.Test.YtalgnfadfngdoaaMake
import Derived.Test.YtalgnfadfngdoaaLaw
import Derived.Deep.Matrix
namespace Go.Proofs.Ytalgnfadfngdoaa
open Go.RowKit

/-- n slices of bytes lie at A: slice r holds the bytes D r. -/
def IsRows (w : World) (B : Nat) (A : Option Addr) (n : Nat) (A' : Nat → Option Addr) (L C : Nat → Nat) (D : Nat → List UInt8) : Prop :=
  (0 < n → ∃ b off, A = some ⟨b, off, none⟩ ∧ b < B ∧ ∀ r, r < n → w.cell? ⟨b, off + r, none⟩ = some (.slice (A' r) (L r) (C r))) ∧
  ∀ r, r < n → L r ≤ C r ∧ L r ≤ maxLen ∧ Byt w B (A' r) (L r) (D r)
theorem IsRows.below {w w' : World} {B : Nat} {A : Option Addr} {n : Nat} {A' : Nat → Option Addr} {L C : Nat → Nat} {D : Nat → List UInt8} (h : IsRows w B A n A' L C D) (hb : Below B w w') : IsRows w' B A n A' L C D := by
  refine ⟨fun hn => ?_, fun r hr => ⟨(h.2 r hr).1, (h.2 r hr).2.1, (h.2 r hr).2.2.below hb⟩⟩
  obtain ⟨b, off, e, hB, hc⟩ := h.1 hn
  exact ⟨b, off, e, hB, fun r hr => (hb.cell (p := ⟨b, off + r, none⟩) hB).trans (hc r hr)⟩

/-- k frames, from number j on. -/
def framesFrom (D : Nat → List UInt8) : Nat → Nat → List UInt8
  | _, 0 => []
  | j, k + 1 => wrapF (D j) ++ framesFrom D (j + 1) k
theorem framesFrom_snoc (D : Nat → List UInt8) (k : Nat) : ∀ j, framesFrom D j (k + 1) = framesFrom D j k ++ wrapF (D (j + k)) := by
  induction k with
  | zero => intro j; simp [framesFrom]
  | succ k ih =>
    intro j
    rw [framesFrom, ih (j + 1), framesFrom, List.append_assoc]
    rw [show j + 1 + k = j + (k + 1) from by omega]

/-- 's[k:]': the value that it tells, and what it reads as. -/
theorem cut_from {P : Program} {T E : TypeId} (hT : ByteTy P T E) (A : Option Addr) (m c K : Nat) (hK : K ≤ m) (hm : m ≤ c) :
    ∃ A2, (∀ (k : IntKind) (W : World), (Instr.slice T (.slice A m c) (some (.int k (K : Int))) none none).run P W = .ok (.slice A2 (m - K) (c - K)) W) ∧
      ∀ (w : World) (B : Nat) (l : List UInt8), Byt w B A m l → Byt w B A2 (m - K) (l.drop K) := by
  obtain ⟨i, hi, hz, hs, hb⟩ := hT.info
  refine ⟨if c = K then A else A.map (·.add (K * 1)), fun k W => ?_, fun w B l h => ?_⟩
  · have helem : P.elem T = E := by
      have := hT.sl
      simp [Program.elem, this]
    have hsz : (sizeOf E).run P W = .ok 1 W := by
      simp [sizeOf, typeInfo, hi, hs]
    rw [run_slice_l W T A m c (by rw [helem]; exact hT.sl) k (K : Int) (by omega) (by omega), helem, hsz]
    simp [Result.andThen, sliced]
  · have := h.mid (i := K) (j := m) (A' := if c = K then A else A.map (·.add (K * 1))) hK (Nat.le_refl _) (by
      rintro hlt b off rfl
      rw [if_neg (by omega)]
      simp [add_plain])
    rwa [List.take_of_length_le (by rw [h.len]; exact Nat.le_refl _)] at this
end Go.Proofs.Ytalgnfadfngdoaa
