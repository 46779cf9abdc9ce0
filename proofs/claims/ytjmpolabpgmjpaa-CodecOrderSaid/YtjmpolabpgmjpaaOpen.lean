/-
  What a law is told of a slice of bytes that came in, as bytes.
-/
import Derived.Test.YtjmpolabpgmjpaaKnown
namespace Go.Proofs.Ytjmpolabpgmjpaa
open Go.RowKit

/-- A slice of integers that came in: nil, or a row of 'cap' cells of which the first 'len' are its elements. -/
def IsRow (k : IntKind) (w : World) (a : Option Addr) (len cap : Nat) (zs : List Int) : Prop :=
  (a = none ∧ len = 0 ∧ cap = 0 ∧ zs = []) ∨
  ∃ x, a = some x ∧ len ≤ cap ∧ cap ≤ maxLen ∧ zs.length = cap ∧ (∀ i, i < zs.length → w.cell? (x.add i) = some (.int k (zs.getD i 0))) ∧ ∀ n ∈ zs, (Lit.int k n).wf = true

theorem u8_back (n : Int) (h : (Lit.int .u8 n).wf = true) : n8 (UInt8.ofNat n.toNat) = n := by
  have h1 : 0 ≤ n ∧ n < 256 := by
    have e1 : IntKind.u8.min = 0 := by decide
    have e2 : IntKind.u8.max = 255 := by decide
    simp [Lit.wf, e1, e2] at h
    omega
  unfold n8
  rw [UInt8.toNat_ofNat_of_lt' (by simp; omega)]
  omega

theorem isRow_byt {w : World} {a : Option Addr} {len cap : Nat} {zs : List Int} (h : IsRow .u8 w a len cap zs) :
    len ≤ cap ∧ len ≤ maxLen ∧ ∃ l : List UInt8, Byt w w.heap.size a len l := by
  rcases h with ⟨rfl, rfl, rfl, rfl⟩ | ⟨x, rfl, hl, hm, hz, hc, hw⟩
  · exact ⟨Nat.le_refl _, Nat.zero_le _, [], Byt.nil_ _⟩
  · refine ⟨hl, by omega, (zs.take len).map (fun n => UInt8.ofNat n.toNat), by rw [List.length_map, List.length_take]; omega, fun hn => ?_⟩
    obtain ⟨b, off, spot⟩ := x
    have h0 := hc 0 (by omega)
    have hspot : spot = none := by simpa [Addr.add] using World.cell?_spot h0
    subst hspot
    refine ⟨b, off, rfl, by simpa [add_plain] using World.block_lt_of_cell? w _ h0, fun j c hj => ?_⟩
    rw [List.getElem?_map] at hj
    have hlt : j < len := by
      rcases Nat.lt_or_ge j len with h | h
      · exact h
      · rw [List.getElem?_eq_none (by rw [List.length_take]; omega)] at hj; cases hj
    rw [List.getElem?_take, if_pos hlt, List.getElem?_eq_getElem (by omega)] at hj
    injection hj with hj
    subst hj
    have hcj := hc j (by omega)
    rw [add_plain] at hcj
    rw [hcj, u8_back _ (hw _ (List.getElem_mem _))]
    simp [List.getD, List.getElem?_eq_getElem (show j < zs.length by omega)]
end Go.Proofs.Ytjmpolabpgmjpaa
