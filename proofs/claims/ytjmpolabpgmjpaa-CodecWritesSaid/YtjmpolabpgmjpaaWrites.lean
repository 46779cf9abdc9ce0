/-
  Proved: for every list of values CodecWrites returns true and leaves its argument as it was (every values have the document's bytes as a row and as a key, or none). No condition.
-/
import Derived.Test.YtjmpolabpgmjpaaRows
import Derived.Test.YtjmpolabpgmjpaaArgs
import Derived.Test.YtjmpolabpgmjpaaOpen
import Derived.Test.YtjmpolabpgmjpaaTot
import Derived.Test.YtjmpolabpgmjpaaSpanLaw
import Derived.Test.YtjmpolabpgmjpaaRRow
import Derived.Test.YtjmpolabpgmjpaaRKey
import Derived.BigQuiet
import Derived.WalkKit
import Derived.ProofKit
import Derived.OpenShut
import Derived.ShutString
import Derived.ChangeOld
import Derived.Below
import Derived.LoopTactic
namespace Go.Proofs.Ytjmpolabpgmjpaa.codecWrites
open Go.ChangeShapes Go.WideShapes Go.ChangeAt Go.RowKit
open Go.ChangeMaps (open_string shut_string)
set_option linter.unusedVariables false

theorem own : ownKnob Try.prog.godebug = none := by kernel_rfl
theorem laidOut : laidOutB Try.prog = true := by kernel_rfl

def rowL (vs : List Val) : List UInt8 := if rightF vs 8 = 0 then rowF vs else []
def keyL (vs : List Val) : List UInt8 := if rightF vs 3 = 0 then keyF vs else []
theorem row_flat {vs : List Val} {w : World} {e : Ending} {w' : World} (h : RowPost vs w e w') :
    ∃ A n c, e = .returned (.tuple #[.slice A n c, .int .i64 (rightF vs 8)]) ∧ Byt w' w'.heap.size A n (rowL vs) ∧ Below w.heap.size w w' := by
  rcases h with ⟨h0, rfl, hb⟩ | ⟨h0, A, n, c, rfl, ho, _, hb⟩
  · exact ⟨none, 0, 0, rfl, by unfold rowL; rw [if_neg h0]; exact Byt.nil_ _, hb⟩
  · exact ⟨A, n, c, by rw [h0]; rfl, by unfold rowL; rw [if_pos h0]; exact ho.byt, hb⟩
theorem key_flat {vs : List Val} {w : World} {e : Ending} {w' : World} (h : KeyPost vs w e w') :
    ∃ A n c, e = .returned (.tuple #[.slice A n c, .int .i64 (rightF vs 3)]) ∧ Byt w' w'.heap.size A n (keyL vs) ∧ Below w.heap.size w w' := by
  rcases h with ⟨h0, rfl, hb⟩ | ⟨h0, A, n, c, rfl, ho, _, hb⟩
  · exact ⟨none, 0, 0, rfl, by unfold keyL; rw [if_neg h0]; exact Byt.nil_ _, hb⟩
  · exact ⟨A, n, c, by rw [h0]; rfl, by unfold keyL; rw [if_pos h0]; exact ho.byt, hb⟩

set_option maxHeartbeats 1600000 in
theorem walk (a0 : Option Addr) (len0 cap0 : Nat) (vs0 : List Val) (w : World) (hc0 : len0 ≤ cap0) (hm0 : len0 ≤ maxLen) (hv0 : Vals w w.heap.size a0 len0 vs0)
    : Calls Try.prog 3 #[.slice a0 len0 cap0] w fun e w' => e = .returned (.bool true) ∧ Below w.heap.size w w' := by
  unfold maxLen at hm0
  go_enter Try.func3, Try.ntmps3
  go_wp2_with fail
  refine (known_any w).mono ?_
  rintro e w2 ⟨rfl, hb2⟩
  have hs2 := hb2.size
  have hv2 := hv0.below hb2
  go_wp2_with fail
  refine (few_any a0 len0 cap0 vs0 _ w2 (by omega) hv2).mono ?_
  rintro e w3 ⟨rfl, rfl⟩
  cases hfew : fewF vs0
  · go_wp2_with fail
    go_ret
    exact ⟨rfl, hb2⟩
  go_wp2_with fail
  refine (row_any a0 len0 cap0 vs0 _ w2 (by omega) hv2 hs2).mono ?_
  intro e w3 hpost
  obtain ⟨A3, n3, c3, rfl, hy3, hb3⟩ := row_flat hpost
  clear hpost
  have hb3' := hb2.trans (hb3.mono hs2)
  have hs3 := hb3'.size
  have hv3 := hv0.below hb3'
  generalize hR : rightF vs0 8 = R at *
  have HR := Lib.hid hR
  clear hR
  go_wp2_with fail
  refine (rrow_any a0 len0 cap0 vs0 _ w3 (by omega) hv3 hs3).mono ?_
  intro e w4 hpost
  obtain ⟨A4, n4, c4, rfl, hy4, hb4⟩ := row_flat hpost
  clear hpost
  rw [HR.out]
  have hb4' := hb3'.trans (hb4.mono hs3)
  have hs4 := hb4'.size
  have hv4 := hv0.below hb4'
  generalize hR2 : rightF vs0 3 = R2 at *
  have HR2 := Lib.hid hR2
  clear hR2
  go_wp2_with fail
  refine (key_any a0 len0 cap0 vs0 _ w4 (by omega) hv4 hs4).mono ?_
  intro e w5 hpost
  obtain ⟨A5, n5, c5, rfl, hy5, hb5⟩ := key_flat hpost
  clear hpost
  rw [HR2.out]
  have hb5' := hb4'.trans (hb5.mono hs4)
  have hs5 := hb5'.size
  have hv5 := hv0.below hb5'
  go_wp2_with fail
  refine (rkey_any a0 len0 cap0 vs0 _ w5 (by omega) hv5 hs5).mono ?_
  intro e w6 hpost
  obtain ⟨A6, n6, c6, rfl, hy6, hb6⟩ := key_flat hpost
  clear hpost
  rw [HR2.out]
  have hb6' := hb5'.trans (hb6.mono hs5)
  have hx3 := ((hy3.below hb4).below (hb5.mono hb4.size)).below (hb6.mono (Nat.le_trans hb4.size hb5.size))
  have hx4 := (hy4.below hb5).below (hb6.mono hb5.size)
  have hx5 := hy5.below hb6
  have f1 : (rowL vs0 == rowL vs0) = true := by simp
  have f2 : (keyL vs0 == keyL vs0) = true := by simp
  go_wp2_with fail
  refine (bytes_any A3 n3 c3 _ _ A4 n4 c4 _ _ w6 hx3 hx4).mono ?_
  rintro e w7 ⟨rfl, rfl⟩
  rw [f1]
  go_wp2_with fail
  refine (bytes_any A5 n5 c5 _ _ A6 n6 c6 _ _ w7 hx5 hy6).mono ?_
  rintro e w8 ⟨rfl, rfl⟩
  rw [f2]
  go_wp2_with fail
  go_ret
  exact ⟨rfl, hb6'⟩

set_option maxRecDepth 100000 in
theorem lifted (os : Os) (started : os.Started) (H : Type) (enc : TypeId × Value → H) :
    ReturnsInHanded {} Try.checked os 3 .any (Rows.codecWritesSpec.pre6 enc Try.prog Try.f3 Rows.codecWritesRow.domain false) (Rows.codecWritesSpec.post enc Try.prog Try.f3 false true false false) := by
  refine returnsInHanded_of_change (C := Try.checked) own started (by kernel_rfl) Try.func3
    (ChangeSpec.witness6 (enc := enc) (C := Try.checked) false ⟨#[], #[.slice none 0 0], []⟩ 5 (by kernel_rfl) (by kernel_rfl) (by kernel_rfl) (by kernel_rfl)) ?_
  intro W base args ds gs before hval0 hW hcnd _
  have hval : ∀ (j : Nat) t v, Try.f3.params[j]? = some t → args[j]? = some v → Value.okWide Try.prog W .any base t v := hval0
  have hW' := hW
  obtain ⟨p, q, hA0, hV, rfl, hfz, hnd⟩ := hW
  have hA : DataW.TrodAll enc Try.prog W 0 (fun _ => true) true Try.f3.params.toList args.toList ds p := hA0
  rw [Try.params3] at hA hval
  obtain ⟨v0, vt0, d0, ds0, p0, q0, hargs, rfl, rfl, h0, r0⟩ := trodAll_cons hA
  obtain ⟨rfl, rfl, rfl⟩ := trodAll_nil r0
  obtain rfl : args = #[v0] := by cases args; simp_all
  obtain ⟨rfl, rfl⟩ := trodVars_none hV
  obtain ⟨a0, len0, cap0, rfl⟩ := okWide_slice Try.underlying22 (hval 0 22 v0 rfl rfl)
  have k0 := h0
  have lt0 : ∀ x ∈ p0, x.block < W.heap.size := by obtain ⟨m, hm⟩ := k0; exact DataW.trod_lt m _ _ _ hm
  obtain ⟨hc0, hm0, vs0, hv0⟩ : len0 ≤ cap0 ∧ len0 ≤ maxLen ∧ ∃ vs, Vals W W.heap.size a0 len0 vs := by
    obtain ⟨fuel, hf⟩ := h0
    exact vals_of hf
  clear hA0 hval0
  refine (walk a0 len0 cap0 vs0 W hc0 hm0 hv0).mono fun e W' ⟨he, bel⟩ => ?_
  subst he
  exact ⟨_, rfl, _, _, _, [], _, [], hW', trodAll_mk1 (shut_bool Try.underlying4 _), (trodAll_cons_mk (Below.trod laidOut (by kernel_rfl) (of_decide_eq_true (by kernel_rfl)) k0 bel lt0) trodAll_mk0), rfl, bel.frame _, fun h => by cases h⟩

theorem over : Rows.codecWritesRow.holds Try.pinned (OpenSpec.ofChange Rows.codecWritesSpec) :=
  OpenClaim.holds_of_wide 3 Try.f3 rfl rfl rfl rfl rfl rfl rfl ⟨rfl, rfl, rfl, rfl, rfl⟩ rfl rfl rfl rfl rfl (by kernel_rfl) Try.func3 (by kernel_rfl)
    (of_decide_eq_true (by kernel_rfl)) (by unfold Func.isWrapper; first | (rw [if_pos (by decide +kernel)]; kernel_rfl) | (rw [if_neg (by decide +kernel)]; exact ⟨rfl, rfl⟩))
    (fun os started H enc _ => lifted os started H enc)

/-- The statement. -/
theorem proved : Rows.CodecWritesSaid := over
#print axioms proved
end Go.Proofs.Ytjmpolabpgmjpaa.codecWrites
