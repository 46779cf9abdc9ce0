/-
  Trichotomy of byte strings, and a cut from the front.
-/
import Derived.Test.YtjmpolabpgmjpaaAftLaw
namespace Go.Proofs.Ytjmpolabpgmjpaa
open Go.RowKit
theorem less_total : ∀ (a b : List UInt8), Op.bytesLess a b = false → ¬ a = b → Op.bytesLess b a = true := by
  intro a
  induction a with
  | nil =>
    intro b h hn
    cases b with
    | nil => exact absurd rfl hn
    | cons y b => simp [Op.bytesLess] at h
  | cons x a ih =>
    intro b h hn
    cases b with
    | nil => rfl
    | cons y b =>
      simp only [Op.bytesLess, Bool.or_eq_false_iff, decide_eq_false_iff_not, Bool.and_eq_false_iff, beq_eq_false_iff_ne] at h
      obtain ⟨h1, h2⟩ := h
      simp only [Op.bytesLess, Bool.or_eq_true, decide_eq_true_eq, Bool.and_eq_true, beq_iff_eq]
      have h1' : ¬ x.toNat < y.toNat := h1
      by_cases e : x = y
      · subst e
        right
        refine ⟨rfl, ih b ?_ (fun e => hn (by rw [e]))⟩
        rcases h2 with h2 | h2
        · exact absurd rfl h2
        · exact h2
      · left
        show y.toNat < x.toNat
        have : x.toNat ≠ y.toNat := fun h => e (UInt8.toNat_inj.1 h)
        omega
theorem gtr (p o : List UInt8) (h : (!Op.bytesLess o p) = true ∧ (!o == p) = true → False) (hn : ¬ o = p) : Op.bytesLess o p = true := by
  cases e : Op.bytesLess o p
  · exact absurd ⟨by rw [e]; rfl, by simp [hn]⟩ h
  · rfl
theorem below_drewN {B : Nat} {a w : World} (h : Below B a w) (n : Nat) : Below B a (w.drewN n) := ⟨h.os, h.tape, h.output, h.size, h.block⟩
/-- ok && other ≥ a, where other is behind the prefix and does not begin with it. -/
theorem after_ok (p o : List UInt8) (h : (!Op.bytesLess o p) = true ∧ (!o == p) = true) (hz : 0 < afterN p) (hn : ¬ o.take p.length = p) : (!Op.bytesLess o (afterB p)) = true := by
  obtain ⟨h1, h2⟩ := h
  rw [after_not_less p o hz (less_total o p (by simpa using h1) (by simpa using h2)) hn]
  rfl
theorem none_never (p o : List UInt8) (h : (!Op.bytesLess o p) = true ∧ (!o == p) = true) (hz : afterN p = 0) (hn : ¬ o.take p.length = p) : False := by
  obtain ⟨h1, h2⟩ := h
  exact hn (after_none p o hz (less_total o p (by simpa using h1) (by simpa using h2)))
/-- s[:K], the address hidden. -/
theorem cut_to {P : Program} {T E : TypeId} (hT : ByteTy P T E) (A : Option Addr) (m c K : Nat) (hK : K ≤ m) (hm : m ≤ c) :
    ∃ A2, (∀ (k : IntKind) (W : World), (Instr.slice T (.slice A m c) none (some (.int k (K : Int))) none).run P W = .ok (.slice A2 K c) W) ∧
      ∀ (w : World) (B : Nat) (l : List UInt8), Byt w B A m l → Byt w B A2 K (l.take K) := by
  obtain ⟨i, hi, hz, hs, hb⟩ := hT.info
  refine ⟨if c = 0 then A else A.map (·.add (0 * 1)), fun k W => ?_, fun w B l h => ?_⟩
  · have helem : P.elem T = E := by
      have := hT.sl
      simp [Program.elem, this]
    have hsz : (sizeOf E).run P W = .ok 1 W := by
      simp [sizeOf, typeInfo, hi, hs]
    rw [run_slice_h W T A m c (by rw [helem]; exact hT.sl) k (K : Int) (by omega) (by omega), helem, hsz]
    simp [Result.andThen, sliced]
  · have := h.mid (i := 0) (j := K) (A' := if c = 0 then A else A.map (·.add (0 * 1))) (by omega) hK (by
      rintro hlt b off rfl
      rw [if_neg (by omega)]
      simp [add_plain])
    simpa using this
end Go.Proofs.Ytjmpolabpgmjpaa
