/-
  Proved: for every bytes CodecReads returns true and leaves its argument as it was (every bytes are read as a row, as a key, or refused; what comes behind them is told). No condition.
-/
import Derived.Test.YtjmpolabpgmjpaaRows
import Derived.Test.YtjmpolabpgmjpaaArgs
import Derived.Test.YtjmpolabpgmjpaaOpen
import Derived.Test.YtjmpolabpgmjpaaKnown
import Derived.Test.YtjmpolabpgmjpaaTot
import Derived.Test.YtjmpolabpgmjpaaSpanLaw
import Derived.Test.YtjmpolabpgmjpaaRUnkey
import Derived.Test.YtjmpolabpgmjpaaSame
import Derived.BigQuiet
import Derived.WalkKit
import Derived.ProofKit
import Derived.OpenShut
import Derived.ShutString
import Derived.ChangeOld
import Derived.Below
import Derived.LoopTactic
namespace Go.Proofs.Ytjmpolabpgmjpaa.codecReads
open Go.ChangeShapes Go.WideShapes Go.ChangeAt Go.RowKit
open Go.ChangeMaps (open_string shut_string)
set_option linter.unusedVariables false

theorem own : ownKnob Try.prog.godebug = none := by kernel_rfl
theorem laidOut : laidOutB Try.prog = true := by kernel_rfl

theorem unrow_flat {b : List UInt8} {w : World} {e : Ending} {w' : World} (h : UnrowPost b w e w') :
    ∃ (E : Int) (vs : List Val) (A : Option Addr) (n c : Nat), e = .returned (.tuple #[.slice A n c, .int .i64 E]) ∧ Below w.heap.size w w' ∧ Vals w' w'.heap.size A n vs ∧ n ≤ 8 ∧
      ((E = 0 ∧ (∀ v ∈ vs, okV v) ∧ vs.length ≤ 8 ∧ rowF vs = b) ∨ (E = 70 ∧ vs = [] ∧ NoRow b)) := by
  rcases h with ⟨us, A, n, c, hu, hul, hb, he, ho, hbw⟩ | ⟨hno, he, hb⟩
  · exact ⟨0, us, A, n, c, he, hbw, ho.vals (fun v hv => (hu v hv).2), by rw [← ho.len]; exact hul, .inl ⟨rfl, hu, hul, hb⟩⟩
  · exact ⟨70, [], none, 0, 0, he, hb, Vals.nil_ _, by omega, .inr ⟨rfl, rfl, hno⟩⟩
theorem unkey_flat {b : List UInt8} {w : World} {e : Ending} {w' : World} (h : UnkeyPost b w e w') :
    ∃ (E : Int) (vs : List Val) (A : Option Addr) (n c : Nat), e = .returned (.tuple #[.slice A n c, .int .i64 E]) ∧ Below w.heap.size w w' ∧ Vals w' w'.heap.size A n vs ∧ n ≤ 8 ∧
      ((E = 0 ∧ (∀ v ∈ vs, okV v) ∧ vs.length ≤ 3 ∧ keyF vs = b) ∨ (E = 70 ∧ vs = [] ∧ NoKey b)) := by
  rcases h with ⟨us, A, n, c, hu, hul, hb, he, ho, hbw⟩ | ⟨hno, he, hb⟩
  · exact ⟨0, us, A, n, c, he, hbw, ho.vals (fun v hv => (hu v hv).2), by rw [← ho.len]; omega, .inl ⟨rfl, hu, hul, hb⟩⟩
  · exact ⟨70, [], none, 0, 0, he, hb, Vals.nil_ _, by omega, .inr ⟨rfl, rfl, hno⟩⟩
theorem unrow_one {b : List UInt8} {E E2 : Int} {vs us : List Val} (h : (E = 0 ∧ (∀ v ∈ vs, okV v) ∧ vs.length ≤ 8 ∧ rowF vs = b) ∨ (E = 70 ∧ vs = [] ∧ NoRow b)) (h2 : (E2 = 0 ∧ (∀ v ∈ us, okV v) ∧ us.length ≤ 8 ∧ rowF us = b) ∨ (E2 = 70 ∧ us = [] ∧ NoRow b)) : E2 = E ∧ us = vs := by
  rcases h with ⟨rfl, hv, hl, hb⟩ | ⟨rfl, rfl, hno⟩
  · rcases h2 with ⟨rfl, hu, hul, hub⟩ | ⟨rfl, rfl, hno⟩
    · exact ⟨rfl, (rowF_inj us vs [] [] hu hv hul hl (by rw [hb, hub])).1⟩
    · exact absurd hb (hno vs hv hl)
  · rcases h2 with ⟨rfl, hu, hul, hub⟩ | ⟨rfl, rfl, hno⟩
    · exact absurd hub (hno us hu hul)
    · exact ⟨rfl, rfl⟩
theorem unkey_one {b : List UInt8} {E E2 : Int} {vs us : List Val} (h : (E = 0 ∧ (∀ v ∈ vs, okV v) ∧ vs.length ≤ 3 ∧ keyF vs = b) ∨ (E = 70 ∧ vs = [] ∧ NoKey b)) (h2 : (E2 = 0 ∧ (∀ v ∈ us, okV v) ∧ us.length ≤ 3 ∧ keyF us = b) ∨ (E2 = 70 ∧ us = [] ∧ NoKey b)) : E2 = E ∧ us = vs := by
  rcases h with ⟨rfl, hv, hl, hb⟩ | ⟨rfl, rfl, hno⟩
  · rcases h2 with ⟨rfl, hu, hul, hub⟩ | ⟨rfl, rfl, hno⟩
    · exact ⟨rfl, keyF_inj us vs hu hv (by rw [hb, hub])⟩
    · exact absurd hb (hno vs hv hl)
  · rcases h2 with ⟨rfl, hu, hul, hub⟩ | ⟨rfl, rfl, hno⟩
    · exact absurd hub (hno us hu hul)
    · exact ⟨rfl, rfl⟩
def aftL (l : List UInt8) : List UInt8 := if afterN l = 0 then [] else afterB l
theorem after_flat {l : List UInt8} {w : World} {e : Ending} {w' : World} (h : AfterPost l w e w') :
    ∃ A n c, e = .returned (.tuple #[.slice A n c, .bool (decide (0 < afterN l))]) ∧ Byt w' w'.heap.size A n (aftL l) ∧ Below w.heap.size w w' := by
  rcases h with ⟨h0, rfl, hb⟩ | ⟨h0, A, c, rfl, ho, hb⟩
  · exact ⟨none, 0, 0, by rw [h0]; rfl, by unfold aftL; rw [if_pos h0]; exact Byt.nil_ _, hb⟩
  · exact ⟨A, _, c, by rw [decide_eq_true h0], by unfold aftL; rw [if_neg (by omega)]; exact ho.byt, hb⟩

set_option maxRecDepth 20000 in
set_option maxHeartbeats 3200000 in
theorem walk (a0 : Option Addr) (len0 cap0 : Nat) (bs0 : List UInt8) (w : World) (hc0 : len0 ≤ cap0) (hm0 : len0 ≤ maxLen) (hb0 : Byt w w.heap.size a0 len0 bs0)
    : Calls Try.prog 10 #[.slice a0 len0 cap0] w fun e w' => e = .returned (.bool true) ∧ Below w.heap.size w w' := by
  unfold maxLen at hm0
  go_enter Try.func10, Try.ntmps10
  go_wp2_with fail
  refine (known_any w).mono ?_
  rintro e w2 ⟨rfl, hb2⟩
  have hs2 := hb2.size
  by_cases hbig : 1000 < len0
  · go_wp2_with fail
    go_ret
    exact ⟨rfl, hb2⟩
  have hbig1 : len0 ≤ 1000 := by omega
  have HB0 := Lib.hid hb0
  clear hb0 hm0
  go_wp2_with fail
  refine (unrow_any a0 len0 cap0 bs0 _ w2 (by omega) hc0 (HB0.out.below hb2) hs2).mono ?_
  intro e w3 hpost
  obtain ⟨E, vs, A3, n3, c3, rfl, hbx, hv3, hn3, hE⟩ := unrow_flat hpost
  clear hpost
  have HE := Lib.hid hE
  have hb3' := hb2.trans (hbx.mono hs2)
  have hs3 := hb3'.size
  have hwr : wrap64 E = E := by rcases hE with ⟨rfl, _⟩ | ⟨rfl, _⟩ <;> (unfold wrap64; omega)
  clear hbx hE
  go_wp2_with fail
  refine (runrow_any a0 len0 cap0 bs0 _ w3 (by omega) hc0 (HB0.out.below hb3') hs3).mono ?_
  intro e w4 hpost
  obtain ⟨E2, us, A4, n4, c4, rfl, hbx, hv4, hn4, hE2⟩ := unrow_flat hpost
  clear hpost
  obtain ⟨rfl, rfl⟩ := unrow_one HE.out hE2
  have hb4' := hb3'.trans (hbx.mono hs3)
  have hs4 := hb4'.size
  have hv3' := hv3.below hbx
  clear hbx hE2 HE
  go_wp2_with fail
  refine (same_any A3 n3 c3 _ A4 n4 c4 _ us w4 (by omega) hv3' hv4).mono ?_
  rintro e w5 ⟨rfl, m5, hm5⟩
  have hb5' : Below w.heap.size w w5 := by rw [hm5]; exact below_drewN hb4' _
  have hs5 := hb5'.size
  clear hm5 hv3' hv4 hv3 hwr
  go_wp2_with fail
  refine (unkey_any a0 len0 cap0 bs0 _ w5 (by omega) hc0 (HB0.out.below hb5') hs5).mono ?_
  intro e w6 hpost
  obtain ⟨F, vs, A6, n6, c6, rfl, hbx, hv6, hn6, hF⟩ := unkey_flat hpost
  clear hpost
  have HF := Lib.hid hF
  have hb6' := hb5'.trans (hbx.mono hs5)
  have hs6 := hb6'.size
  have hwr : wrap64 F = F := by rcases hF with ⟨rfl, _⟩ | ⟨rfl, _⟩ <;> (unfold wrap64; omega)
  clear hbx hF
  go_wp2_with fail
  refine (runkey_any a0 len0 cap0 bs0 _ w6 hbig1 hc0 (HB0.out.below hb6') hs6).mono ?_
  intro e w7 hpost
  obtain ⟨F2, us, A7, n7, c7, rfl, hbx, hv7, hn7, hF2⟩ := unkey_flat hpost
  clear hpost
  obtain ⟨rfl, rfl⟩ := unkey_one HF.out hF2
  have hb7' := hb6'.trans (hbx.mono hs6)
  have hs7 := hb7'.size
  have hv6' := hv6.below hbx
  clear hbx hF2 HF
  go_wp2_with fail
  refine (same_any A6 n6 c6 _ A7 n7 c7 _ us w7 (by omega) hv6' hv7).mono ?_
  rintro e w8 ⟨rfl, m8, hm8⟩
  have hb8' : Below w.heap.size w w8 := by rw [hm8]; exact below_drewN hb7' _
  have hs8 := hb8'.size
  clear hm8 hv6' hv7 hv6 hwr
  go_wp2_with fail
  refine (after_any a0 len0 cap0 bs0 _ w8 (by omega) hc0 (HB0.out.below hb8') hs8).mono ?_
  intro e w9 hpost
  obtain ⟨A9, n9, c9, rfl, hy9, hbx⟩ := after_flat hpost
  clear hpost
  have hb9' := hb8'.trans (hbx.mono hs8)
  have hs9 := hb9'.size
  clear hbx
  obtain ⟨ok, hok⟩ : ∃ ok, ok = decide (0 < afterN bs0) := ⟨_, rfl⟩
  have HOK := Lib.hid hok
  rw [← hok]
  clear hok
  go_wp2_with fail
  refine (rafter_any a0 len0 cap0 bs0 _ w9 (by omega) hc0 (HB0.out.below hb9') hs9).mono ?_
  intro e w10 hpost
  obtain ⟨A10, n10, c10, rfl, hy10, hbx⟩ := after_flat hpost
  clear hpost
  have hb10' := hb9'.trans (hbx.mono hs9)
  have hy9' := hy9.below hbx
  rw [← HOK.out]
  clear hbx
  have fe : (aftL bs0 == aftL bs0) = true := by simp
  go_wp2_with fail
  refine (bytes_any A9 n9 c9 _ _ A10 n10 c10 _ _ w10 hy9' hy10).mono ?_
  rintro e w11 ⟨rfl, rfl⟩
  rw [fe]
  go_wp2_with fail
  go_ret
  exact ⟨rfl, hb10'⟩

set_option maxRecDepth 100000 in
theorem lifted (os : Os) (started : os.Started) (H : Type) (enc : TypeId × Value → H) :
    ReturnsInHanded {} Try.checked os 10 .any (Rows.codecReadsSpec.pre6 enc Try.prog Try.f10 Rows.codecReadsRow.domain false) (Rows.codecReadsSpec.post enc Try.prog Try.f10 false true false false) := by
  refine returnsInHanded_of_change (C := Try.checked) own started (by kernel_rfl) Try.func10
    (ChangeSpec.witness6 (enc := enc) (C := Try.checked) false ⟨#[], #[.slice none 0 0], []⟩ 5 (by kernel_rfl) (by kernel_rfl) (by kernel_rfl) (by kernel_rfl)) ?_
  intro W base args ds gs before hval0 hW hcnd _
  have hval : ∀ (j : Nat) t v, Try.f10.params[j]? = some t → args[j]? = some v → Value.okWide Try.prog W .any base t v := hval0
  have hW' := hW
  obtain ⟨p, q, hA0, hV, rfl, hfz, hnd⟩ := hW
  have hA : DataW.TrodAll enc Try.prog W 0 (fun _ => true) true Try.f10.params.toList args.toList ds p := hA0
  rw [Try.params10] at hA hval
  obtain ⟨v0, vt0, d0, ds0, p0, q0, hargs, rfl, rfl, h0, r0⟩ := trodAll_cons hA
  obtain ⟨rfl, rfl, rfl⟩ := trodAll_nil r0
  obtain rfl : args = #[v0] := by cases args; simp_all
  obtain ⟨rfl, rfl⟩ := trodVars_none hV
  obtain ⟨a0, len0, cap0, rfl⟩ := okWide_slice Try.underlying25 (hval 0 25 v0 rfl rfl)
  have k0 := h0
  have lt0 : ∀ x ∈ p0, x.block < W.heap.size := by obtain ⟨m, hm⟩ := k0; exact DataW.trod_lt m _ _ _ hm
  obtain ⟨hc0, hm0, bs0, hb0⟩ : len0 ≤ cap0 ∧ len0 ≤ maxLen ∧ ∃ l : List UInt8, Byt W W.heap.size a0 len0 l := by
    obtain ⟨fuel, hf⟩ := h0
    rcases open_ints Try.underlying25 Try.underlying5 (by kernel_rfl) hf with ⟨hcs, _⟩ | ⟨x, l, c, zs, hcs, _, hl, hm, hz, _, hcell, hwz⟩
    · simp [Value.cells] at hcs
      obtain ⟨rfl, rfl, rfl⟩ := hcs
      exact isRow_byt (zs := []) (.inl ⟨rfl, rfl, rfl, rfl⟩)
    · simp [Value.cells] at hcs
      obtain ⟨rfl, rfl, rfl⟩ := hcs
      exact isRow_byt (zs := zs) (.inr ⟨_, rfl, hl, hm, by simpa using hz, hcell, hwz⟩)
  clear hA0 hval0
  refine (walk a0 len0 cap0 bs0 W hc0 hm0 hb0).mono fun e W' ⟨he, bel⟩ => ?_
  subst he
  exact ⟨_, rfl, _, _, _, [], _, [], hW', trodAll_mk1 (shut_bool Try.underlying4 _), (trodAll_cons_mk (Below.trod laidOut (by kernel_rfl) (of_decide_eq_true (by kernel_rfl)) k0 bel lt0) trodAll_mk0), rfl, bel.frame _, fun h => by cases h⟩

theorem over : Rows.codecReadsRow.holds Try.pinned (OpenSpec.ofChange Rows.codecReadsSpec) :=
  OpenClaim.holds_of_wide 10 Try.f10 rfl rfl rfl rfl rfl rfl rfl ⟨rfl, rfl, rfl, rfl, rfl⟩ rfl rfl rfl rfl rfl (by kernel_rfl) Try.func10 (by kernel_rfl)
    (of_decide_eq_true (by kernel_rfl)) (by unfold Func.isWrapper; first | (rw [if_pos (by decide +kernel)]; kernel_rfl) | (rw [if_neg (by decide +kernel)]; exact ⟨rfl, rfl⟩))
    (fun os started H enc _ => lifted os started H enc)

/-- The statement. -/
theorem proved : Rows.CodecReadsSaid := over
#print axioms proved
end Go.Proofs.Ytjmpolabpgmjpaa.codecReads
