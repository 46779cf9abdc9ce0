/-
  A slice of values that came in, opened.
-/
import Derived.Test.YtjmpolabpgmjpaaVals
import Derived.Deep.Slices
import Derived.Deep.Fields
import Derived.ChangeSame
namespace Go.Proofs.Ytjmpolabpgmjpaa
open Go.RowKit Go.ChangeShapes Go.WideShapes Go.Deep

theorem i64_range (n : Int) (h : (Lit.int .i64 n).wf = true) : -9223372036854775808 ≤ n ∧ n ≤ 9223372036854775807 := by
  have e1 : IntKind.i64.min = -9223372036854775808 := by decide
  have e2 : IntKind.i64.max = 9223372036854775807 := by decide
  simp [Lit.wf, e1, e2] at h
  omega
theorem size_list (s : ByteArray) (h : s.size ≤ maxLen) : s.data.toList.length ≤ 9223372036854775807 := by
  have e : s.data.toList.length = s.size := rfl
  unfold maxLen at h
  rw [e]
  omega

theorem vals_of {H : Type} {enc : TypeId × Value → H} {w : World} {a : Option Addr} {len cap fuel : Nat} {x : DataW H × List MemPlace}
    (h : DataW.trod enc Try.prog w 0 (fun _ => true) true fuel 22 [.slice a len cap] = some x) :
    len ≤ cap ∧ len ≤ maxLen ∧ ∃ vs, Vals w w.heap.size a len vs := by
  rcases open_slice Try.underlying22 h with h0 | ⟨a', len', cap', m, n, D, Pl, hcs, hb, hl, hm, hmm, hx, hi⟩
  · have hcs := h0.1
    simp at hcs
    obtain ⟨rfl, rfl, rfl⟩ := hcs
    exact ⟨Nat.le_refl _, Nat.zero_le _, [], Vals.nil_ none⟩
  · simp at hcs
    obtain ⟨rfl, rfl, rfl⟩ := hcs
    refine ⟨hl, by omega, ?_⟩
    have hC : Try.prog.cellsOf 36 = 3 := by kernel_rfl
    have each : ∀ i, i < len → ∃ v : Val, v.fits ∧ w.cell? (a'.add (i * 3)) = some (.int .i64 v.kind) ∧ w.cell? (a'.add (i * 3 + 1)) = some (.int .i64 v.num) ∧ w.cell? (a'.add (i * 3 + 2)) = some (.string (strOf v.text)) := by
      intro i him
      obtain ⟨cs', hc, ht'⟩ := hi i (by simp at hmm; omega)
      rw [hC] at hc
      obtain ⟨ys, n', hn', hy, hlen, hyl, hf⟩ := DataW.trod_struct Try.underlying36 ht'
      obtain ⟨_, hcl, hat⟩ := World.cells?_some hc
      match cs', hcl with
      | [c0, c1, c2], _ =>
        have f0 : DataW.trod enc Try.prog w 0 (fun x => true) true n' 3 (List.take (Try.prog.cellsOf 3) (List.drop 0 [c0, c1, c2])) = ys[0]? := hf 0 _ rfl
        have f1 : DataW.trod enc Try.prog w 0 (fun x => true) true n' 2 (List.take (Try.prog.cellsOf 2) (List.drop 1 [c0, c1, c2])) = ys[1]? := hf 1 _ rfl
        have f2 : DataW.trod enc Try.prog w 0 (fun x => true) true n' 9 (List.take (Try.prog.cellsOf 9) (List.drop 2 [c0, c1, c2])) = ys[2]? := hf 2 _ rfl
        rw [show Try.prog.cellsOf 3 = 1 from by kernel_rfl] at f0
        rw [show Try.prog.cellsOf 2 = 1 from by kernel_rfl] at f1
        rw [show Try.prog.cellsOf 9 = 1 from by kernel_rfl] at f2
        have g0 : ys[0]? = some (ys[0]'(by rw [hyl]; decide)) := List.getElem?_eq_getElem _
        have g1 : ys[1]? = some (ys[1]'(by rw [hyl]; decide)) := List.getElem?_eq_getElem _
        have g2 : ys[2]? = some (ys[2]'(by rw [hyl]; decide)) := List.getElem?_eq_getElem _
        obtain ⟨k, hk, _, wk⟩ := DataW.trod_int (k := .i64) Try.underlying3 (f0.trans g0)
        obtain ⟨z, hz, _, wz⟩ := DataW.trod_int (k := .i64) Try.underlying2 (f1.trans g1)
        obtain ⟨s, hs, _, ws⟩ := DataW.trod_string Try.underlying9 (f2.trans g2)
        simp at hk hz hs
        subst hk hz hs
        have h0 := hat 0 (by omega)
        have h1 := hat 1 (by omega)
        have h2 := hat 2 (by omega)
        rw [Go.Deep.add_add] at h0 h1 h2
        refine ⟨⟨k, z, s.data.toList⟩, ?_, h0, h1, ?_⟩
        · exact ⟨(i64_range k wk).1, (i64_range k wk).2, (i64_range z wz).1, (i64_range z wz).2, size_list s ws⟩
        · rw [h2]
          rfl
    have hV : ∃ V : Nat → Val, ∀ i, i < len → (V i).fits ∧ w.cell? (a'.add (i * 3)) = some (.int .i64 (V i).kind) ∧ w.cell? (a'.add (i * 3 + 1)) = some (.int .i64 (V i).num) ∧ w.cell? (a'.add (i * 3 + 2)) = some (.string (strOf (V i).text)) := by
      refine ⟨fun i => if h : i < len then Classical.choose (each i h) else ⟨0, 0, []⟩, fun i hil => ?_⟩
      simp only [dif_pos hil]
      exact Classical.choose_spec (each i hil)
    obtain ⟨V, hV⟩ := hV
    refine ⟨(List.range len).map V, by simp, ?_, fun hn => ?_⟩
    · intro v hv
      obtain ⟨i, hi, rfl⟩ := List.mem_map.1 hv
      exact (hV i (List.mem_range.1 hi)).1
    · obtain ⟨b, off, spot⟩ := a'
      have h0 := (hV 0 hn).2.1
      have hspot : spot = none := by simpa [Addr.add] using World.cell?_spot h0
      subst hspot
      refine ⟨b, off, rfl, by simpa [add_plain] using World.block_lt_of_cell? w _ h0, fun j v hj => ?_⟩
      rw [List.getElem?_map] at hj
      have hjl : j < len := by
        rcases Nat.lt_or_ge j len with h | h
        · exact h
        · rw [List.getElem?_eq_none (by simpa using h)] at hj; cases hj
      rw [List.getElem?_range hjl] at hj
      cases hj
      have := (hV j hjl).2
      simp only [add_plain] at this
      exact this
end Go.Proofs.Ytjmpolabpgmjpaa
