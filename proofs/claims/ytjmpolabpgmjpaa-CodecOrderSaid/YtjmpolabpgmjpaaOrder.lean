/-
  Proved: for every two lists of values and every number CodecOrder returns true and leaves its arguments as they were (keys stand byte by byte as their rows do; a key begins with that of its first values, and with no other row's of as many). No condition.
-/
import Derived.Test.YtjmpolabpgmjpaaRows
import Derived.Test.YtjmpolabpgmjpaaArgs
import Derived.Test.YtjmpolabpgmjpaaOpen
import Derived.Test.YtjmpolabpgmjpaaKnown
import Derived.Test.YtjmpolabpgmjpaaTot
import Derived.Test.YtjmpolabpgmjpaaSpanLaw
import Derived.Test.YtjmpolabpgmjpaaOrdLaw
import Derived.BigQuiet
import Derived.Deep.RegionHeld3
import Derived.WalkKit
import Derived.ProofKit
import Derived.OpenShut
import Derived.ShutString
import Derived.ChangeOld
import Derived.Below
import Derived.LoopTactic
namespace Go.Proofs.Ytjmpolabpgmjpaa.codecOrder
open Go.ChangeShapes Go.WideShapes Go.ChangeAt Go.RowKit
open Go.ChangeMaps (open_string shut_string)
set_option linter.unusedVariables false

theorem own : ownKnob Try.prog.godebug = none := by kernel_rfl
theorem laidOut : laidOutB Try.prog = true := by kernel_rfl

attribute [local go_sem] strOf_list

theorem good_of (vs : List Val) (most : Nat) (h : rightF vs most = 0) (hf : ∀ v ∈ vs, v.fits) : (∀ v ∈ vs, okV v) ∧ vs.length ≤ most := by
  rcases rightF_cases vs most with ⟨_, hl, hall⟩ | hbad
  · exact ⟨fun v hv => ⟨hall v hv, hf v hv⟩, hl⟩
  · omega
theorem right_ok (vs : List Val) (most : Nat) (hv : ∀ v ∈ vs, okV v) (hl : vs.length ≤ most) : rightF vs most = 0 :=
  rightF_ok vs most hl (by rw [List.all_eq_true]; exact fun v h => (hv v h).1)

set_option maxRecDepth 20000 in
set_option maxHeartbeats 3200000 in
theorem walk (a0 : Option Addr) (len0 cap0 : Nat) (vs0 : List Val) (a1 : Option Addr) (len1 cap1 : Nat) (vs1 : List Val) (n2 : Int) (w : World) (hc0 : len0 ≤ cap0) (hm0 : len0 ≤ maxLen) (hv0 : Vals w w.heap.size a0 len0 vs0) (hc1 : len1 ≤ cap1) (hm1 : len1 ≤ maxLen) (hv1 : Vals w w.heap.size a1 len1 vs1) (hn2 : -9223372036854775808 ≤ n2 ∧ n2 ≤ 9223372036854775807)
    : Calls Try.prog 4 #[.slice a0 len0 cap0, .slice a1 len1 cap1, .int .i64 n2] w fun e w' => e = .returned (.bool true) ∧ Below w.heap.size w w' := by
  unfold maxLen at hm0 hm1
  go_enter Try.func4, Try.ntmps4
  go_wp2_with fail
  refine (known_any w).mono ?_
  rintro e w2 ⟨rfl, hb2⟩
  have hs2 := hb2.size
  have hv0' := hv0.below hb2
  have hv1' := hv1.below hb2
  go_wp2_with fail
  refine (few_any a0 len0 cap0 vs0 _ w2 (by omega) hv0').mono ?_
  rintro e w3 ⟨rfl, rfl⟩
  cases hfew : fewF vs0
  · go_wp2_with fail
    go_ret
    exact ⟨rfl, hb2⟩
  go_wp2_with fail
  refine (few_any a1 len1 cap1 vs1 _ w2 (by omega) hv1').mono ?_
  rintro e w3 ⟨rfl, rfl⟩
  cases hfew2 : fewF vs1
  · go_wp2_with fail
    go_ret
    exact ⟨rfl, hb2⟩
  go_wp2_with fail
  refine (key_any a0 len0 cap0 vs0 _ w2 (by omega) hv0' hs2).mono ?_
  rintro e w3 (⟨hbad, rfl, hb3⟩ | ⟨hok, A3, n3, c3, rfl, hown3, hn3, hb3⟩)
  · have hs3 := hb3.size
    have hb3' := hb2.trans (hb3.mono hs2)
    have hne : ¬ ((rightF vs0 3 : Nat) : Int) = 0 := by omega
    clear hbad
    generalize rightF vs0 3 = R at *
    go_wp2_with fail
    refine (key_any a1 len1 cap1 vs1 _ w3 (by omega) (hv1.below hb3') (by omega)).mono ?_
    rintro e w4 (⟨hbad4, rfl, hb4⟩ | ⟨hok4, A4, n4, c4, rfl, hown4, hn4, hb4⟩)
    · have hb4' := hb3'.trans (hb4.mono (by omega))
      clear hbad4
      generalize rightF vs1 3 = R4 at *
      go_wp2_with fail
      go_ret
      exact ⟨rfl, hb4'⟩
    · have hb4' := hb3'.trans (hb4.mono (by omega))
      clear hok4
      go_wp2_with fail
      go_ret
      exact ⟨rfl, hb4'⟩
  have hs3 := hb3.size
  have hb3' := hb2.trans (hb3.mono hs2)
  have HR := Lib.hid hok
  clear hok
  go_wp2_with fail
  refine (key_any a1 len1 cap1 vs1 _ w3 (by omega) (hv1.below hb3') (by omega)).mono ?_
  rintro e w4 (⟨hbad4, rfl, hb4⟩ | ⟨hok4, A4, n4, c4, rfl, hown4, hn4, hb4⟩)
  · have hb4' := hb3'.trans (hb4.mono (by omega))
    have hne : ¬ ((rightF vs1 3 : Nat) : Int) = 0 := by omega
    clear hbad4
    generalize rightF vs1 3 = R4 at *
    go_wp2_with fail
    go_ret
    exact ⟨rfl, hb4'⟩
  have hs4 := hb4.size
  have hb4' := hb3'.trans (hb4.mono (by omega))
  have HG0 := Lib.hid (good_of vs0 3 HR.out hv0.2.1)
  have HG1 := Lib.hid (good_of vs1 3 hok4 hv1.2.1)
  have HORD := Lib.hid (key_rows vs0 vs1 HG0.out.1 HG1.out.1)
  have HV0 := Lib.hid hv0
  have HV1 := Lib.hid hv1
  have hx4 := hown3.byt.below hb4
  have hl3 := Lib.hid hown3.len
  have hl4 := Lib.hid hown4.len
  have hc3 := hown3.ncap
  have hs4' := hb4'.size
  clear hok4 HR hfew hfew2 hv0 hv1 hv0' hv1'
  go_wp2_with fail
  refine (sign_any A3 n3 c3 _ _ A4 n4 c4 _ _ w4 hx4 hown4.byt).mono ?_
  rintro e w5 ⟨rfl, rfl⟩
  rw [HORD.out]
  go_wp2_with fail
  refine (rows_any a0 len0 cap0 _ a1 len1 cap1 _ vs0 vs1 w5 (by omega) (by omega) (HV0.out.below hb4') (HV1.out.below hb4') hs4' hs4' (fun v hv => (HG0.out.1 v hv).1) (fun v hv => (HG1.out.1 v hv).1)).mono ?_
  rintro e w6 ⟨rfl, hb6⟩
  have hb6' := hb4'.trans (hb6.mono hs4')
  have hs6 := hb6'.size
  have hx6 := hx4.below (hb6.mono hs4)
  have ho6 := hown3.below (hb4.trans (hb6.mono hs4))
  clear hx4 HORD
  generalize rowsV vs0 vs1 = r0 at *
  by_cases hneg : n2 < 0
  · go_wp2_with fail
    go_ret
    exact ⟨rfl, hb6'⟩
  by_cases hbig : (len0 : Int) < n2
  · go_wp2_with fail
    go_ret
    exact ⟨rfl, hb6'⟩
  by_cases hbig2 : (len1 : Int) < n2
  · go_wp2_with fail
    go_ret
    exact ⟨rfl, hb6'⟩
  obtain ⟨N, rfl⟩ : ∃ N : Nat, n2 = (N : Int) := ⟨n2.toNat, by omega⟩
  have hN : N ≤ len0 := by omega
  have hN1 : N ≤ len1 := by omega
  go_wp2_with fail
  refine (key_any a1 N cap1 (vs1.take N) _ w6 (by omega) ((HV1.out.below hb6').take N hN1) hs6).mono ?_
  rintro e w7 (⟨hbad7, rfl, hb7⟩ | ⟨hok7, A7, n7, c7, rfl, hown7, hn7, hb7⟩)
  · exact absurd (right_ok (vs1.take N) 3 (fun v hv => HG1.out.1 v (List.mem_of_mem_take hv)) (by rw [List.length_take]; have := HG1.out.2; omega)) hbad7
  have hb7' := hb6'.trans (hb7.mono hs6)
  have hs7 := hb7'.size
  have hx7 := hx6.below (hb7.mono (Nat.le_trans hs4 hb6.size))
  have HL7 := Lib.hid hown7.len
  clear hok7 hx6
  have HVA : Hid (∀ k, Vals (w7.drewN k) w.heap.size a0 N (vs0.take N)) := fun k => ((HV0.out.below hb7').take N hN).keep (fun _ _ => rfl)
  have HVB : Hid (∀ k, Vals (w7.drewN k) w.heap.size a1 N (vs1.take N)) := fun k => ((HV1.out.below hb7').take N hN1).keep (fun _ _ => rfl)
  have HOKA : Hid (∀ v ∈ vs0.take N, isV v = true) := fun v hv => (HG0.out.1 v (List.mem_of_mem_take hv)).1
  have HOKB : Hid (∀ v ∈ vs1.take N, isV v = true) := fun v hv => (HG1.out.1 v (List.mem_of_mem_take hv)).1
  have hpy := hown7.byt
  have hsP := fun k => run_str_byt (S := 9) Try.underlying25 Try.underlying5 Try.underlying9 (w7.drewN k) (hpy.drewN k) c7
  have hNc0 : (N : Int) ≤ (cap0 : Int) := by omega
  have hNc1 : (N : Int) ≤ (cap1 : Int) := by omega
  by_cases heq : vs0.take N = vs1.take N
  · have hbeg := begins_yes vs0 vs1 N heq
    have hr : Hid (rowsV (vs0.take N) (vs1.take N) = 0) := by
      show rowsV (vs0.take N) (vs1.take N) = 0
      rw [heq]; exact rows_self _
    rw [HL7.out] at hbeg
    have q3 : n7 ≤ n3 := by
      have := congrArg List.length hbeg
      rw [List.length_take, HL7.out, hl3.out] at this
      omega
    have q0 : ((n7 : Int) ≤ (n3 : Int)) := by omega
    have q1 : decide ((n7 : Int) ≤ (n3 : Int)) = true := by simp; omega
    have q4 : decide (n7 ≤ n3) = true := by simp; omega
    have f3 : ((keyF vs0).take n7 == keyF (vs1.take N)) = true := by rw [hbeg]; simp
    obtain ⟨AQ, hslQ, hbQ⟩ := cut_to bty A3 n3 c3 n7 q3 hc3
    have hq7 := hbQ _ _ _ hx7
    have hsQ := fun k => run_str_byt (S := 9) Try.underlying25 Try.underlying5 Try.underlying9 (w7.drewN k) (hq7.drewN k) c3
    clear hbeg heq
    go_wp2_with fail
    go_quiet (fail)
    go_wp2_with fail
    go_region_held3 (fun w' => True) (exact trivial) (first | (go_at_call 19; refine (rows_any a0 N cap0 _ a1 N cap1 _ (vs0.take N) (vs1.take N) (w7.drewN (nq + 1)) (by omega) (by omega) (HVA.out (nq + 1)) (HVB.out (nq + 1)) hs7 hs7 HOKA.out HOKB.out).mono ?_; rintro e wx ⟨rfl, hbx⟩; have hbx' := Below.trans (below_drewN hb7' (nq + 1)) (hbx.mono hs7); clear hbx))
    all_goals
      go_wp2_with fail
      go_ret
      refine ⟨?_, hbx'⟩
      (first | (rw [hr.out]; rfl) | (simp only [Array.getD_eq_getD_getElem?]; simp [hr.out]))
  · have hbeg := begins_no vs0 vs1 N HG0.out.1 HG1.out.1 (by rw [HV0.out.len]; exact hN) (by rw [HV1.out.len]; exact hN1) heq
    have hr : Hid ((rowsV (vs0.take N) (vs1.take N) == 0) = false) := by
      show (rowsV (vs0.take N) (vs1.take N) == 0) = false
      rw [beq_eq_false_iff_ne]
      exact fun h => heq (rows_zero _ _ h)
    rw [HL7.out] at hbeg
    clear heq
    by_cases hlt : n3 < n7
    · have q3 : ¬ n7 ≤ n3 := by omega
      have q0 : ¬ ((n7 : Int) ≤ (n3 : Int)) := by omega
      have q1 : decide ((n7 : Int) ≤ (n3 : Int)) = false := by simp; omega
      have q4 : decide (n7 ≤ n3) = false := by simp; omega
      clear hbeg
      go_wp2_with fail
      go_quiet (fail)
      go_wp2_with fail
      go_region_held3 (fun w' => True) (exact trivial) (first | (go_at_call 19; refine (rows_any a0 N cap0 _ a1 N cap1 _ (vs0.take N) (vs1.take N) (w7.drewN (nq + 1)) (by omega) (by omega) (HVA.out (nq + 1)) (HVB.out (nq + 1)) hs7 hs7 HOKA.out HOKB.out).mono ?_; rintro e wx ⟨rfl, hbx⟩; have hbx' := Below.trans (below_drewN hb7' (nq + 1)) (hbx.mono hs7); clear hbx))
      all_goals
        go_wp2_with fail
        go_ret
        refine ⟨?_, hbx'⟩
        (first | (rw [hr.out]; rfl) | (simp only [Array.getD_eq_getD_getElem?]; simp [hr.out]))
    · have q3 : n7 ≤ n3 := by omega
      have q0 : ((n7 : Int) ≤ (n3 : Int)) := by omega
      have q1 : decide ((n7 : Int) ≤ (n3 : Int)) = true := by simp; omega
      have q4 : decide (n7 ≤ n3) = true := by simp; omega
      have f3 : ((keyF vs0).take n7 == keyF (vs1.take N)) = false := by simpa using hbeg
      obtain ⟨AQ, hslQ, hbQ⟩ := cut_to bty A3 n3 c3 n7 q3 hc3
      have hq7 := hbQ _ _ _ hx7
      have hsQ := fun k => run_str_byt (S := 9) Try.underlying25 Try.underlying5 Try.underlying9 (w7.drewN k) (hq7.drewN k) c3
      clear hbeg
      go_wp2_with fail
      go_quiet (fail)
      go_wp2_with fail
      go_region_held3 (fun w' => True) (exact trivial) (first | (go_at_call 19; refine (rows_any a0 N cap0 _ a1 N cap1 _ (vs0.take N) (vs1.take N) (w7.drewN (nq + 1)) (by omega) (by omega) (HVA.out (nq + 1)) (HVB.out (nq + 1)) hs7 hs7 HOKA.out HOKB.out).mono ?_; rintro e wx ⟨rfl, hbx⟩; have hbx' := Below.trans (below_drewN hb7' (nq + 1)) (hbx.mono hs7); clear hbx))
      all_goals
        go_wp2_with fail
        go_ret
        refine ⟨?_, hbx'⟩
        (first | (rw [hr.out]; rfl) | (simp only [Array.getD_eq_getD_getElem?]; simp [hr.out]))

set_option maxRecDepth 100000 in
theorem lifted (os : Os) (started : os.Started) (H : Type) (enc : TypeId × Value → H) :
    ReturnsInHanded {} Try.checked os 4 .any (Rows.codecOrderSpec.pre6 enc Try.prog Try.f4 Rows.codecOrderRow.domain false) (Rows.codecOrderSpec.post enc Try.prog Try.f4 false true false false) := by
  refine returnsInHanded_of_change (C := Try.checked) own started (by kernel_rfl) Try.func4
    (ChangeSpec.witness6 (enc := enc) (C := Try.checked) false ⟨#[], #[.slice none 0 0, .slice none 0 0, .int .i64 0], []⟩ 7 (by kernel_rfl) (by kernel_rfl) (by kernel_rfl) (by kernel_rfl)) ?_
  intro W base args ds gs before hval0 hW hcnd _
  have hval : ∀ (j : Nat) t v, Try.f4.params[j]? = some t → args[j]? = some v → Value.okWide Try.prog W .any base t v := hval0
  have hW' := hW
  obtain ⟨p, q, hA0, hV, rfl, hfz, hnd⟩ := hW
  have hA : DataW.TrodAll enc Try.prog W 0 (fun _ => true) true Try.f4.params.toList args.toList ds p := hA0
  rw [Try.params4] at hA hval
  obtain ⟨v0, vt0, d0, ds0, p0, q0, hargs, rfl, rfl, h0, r0⟩ := trodAll_cons hA
  obtain ⟨v1, vt1, d1, ds1, p1, q1, rfl, rfl, rfl, h1, r1⟩ := trodAll_cons r0
  obtain ⟨v2, vt2, d2, ds2, p2, q2, rfl, rfl, rfl, h2, r2⟩ := trodAll_cons r1
  obtain ⟨rfl, rfl, rfl⟩ := trodAll_nil r2
  obtain rfl : args = #[v0, v1, v2] := by cases args; simp_all
  obtain ⟨rfl, rfl⟩ := trodVars_none hV
  obtain ⟨a0, len0, cap0, rfl⟩ := okWide_slice Try.underlying22 (hval 0 22 v0 rfl rfl)
  obtain ⟨a1, len1, cap1, rfl⟩ := okWide_slice Try.underlying22 (hval 1 22 v1 rfl rfl)
  have k0 := h0
  have lt0 : ∀ x ∈ p0, x.block < W.heap.size := by obtain ⟨m, hm⟩ := k0; exact DataW.trod_lt m _ _ _ hm
  have k1 := h1
  have lt1 : ∀ x ∈ p1, x.block < W.heap.size := by obtain ⟨m, hm⟩ := k1; exact DataW.trod_lt m _ _ _ hm
  have k2 := h2
  have lt2 : ∀ x ∈ p2, x.block < W.heap.size := by obtain ⟨m, hm⟩ := k2; exact DataW.trod_lt m _ _ _ hm
  obtain ⟨hc0, hm0, vs0, hv0⟩ : len0 ≤ cap0 ∧ len0 ≤ maxLen ∧ ∃ vs, Vals W W.heap.size a0 len0 vs := by
    obtain ⟨fuel, hf⟩ := h0
    exact vals_of hf
  obtain ⟨hc1, hm1, vs1, hv1⟩ : len1 ≤ cap1 ∧ len1 ≤ maxLen ∧ ∃ vs, Vals W W.heap.size a1 len1 vs := by
    obtain ⟨fuel, hf⟩ := h1
    exact vals_of hf
  obtain ⟨n2, rfl, rfl, rfl, hn2⟩ := open_int Try.underlying3 (hval 2 3 v2 rfl rfl) h2
  clear hA0 hval0
  refine (walk a0 len0 cap0 vs0 a1 len1 cap1 vs1 n2 W hc0 hm0 hv0 hc1 hm1 hv1 (i64_range n2 hn2)).mono fun e W' ⟨he, bel⟩ => ?_
  subst he
  exact ⟨_, rfl, _, _, _, [], _, [], hW', trodAll_mk1 (shut_bool Try.underlying4 _), (trodAll_cons_mk (Below.trod laidOut (by kernel_rfl) (of_decide_eq_true (by kernel_rfl)) k0 bel lt0) (trodAll_cons_mk (Below.trod laidOut (by kernel_rfl) (of_decide_eq_true (by kernel_rfl)) k1 bel lt1) (trodAll_cons_mk (Below.trod laidOut (by kernel_rfl) (of_decide_eq_true (by kernel_rfl)) k2 bel lt2) trodAll_mk0))), rfl, bel.frame _, fun h => by cases h⟩

theorem over : Rows.codecOrderRow.holds Try.pinned (OpenSpec.ofChange Rows.codecOrderSpec) :=
  OpenClaim.holds_of_wide 4 Try.f4 rfl rfl rfl rfl rfl rfl rfl ⟨rfl, rfl, rfl, rfl, rfl⟩ rfl rfl rfl rfl rfl (by kernel_rfl) Try.func4 (by kernel_rfl)
    (of_decide_eq_true (by kernel_rfl)) (by unfold Func.isWrapper; first | (rw [if_pos (by decide +kernel)]; kernel_rfl) | (rw [if_neg (by decide +kernel)]; exact ⟨rfl, rfl⟩))
    (fun os started H enc _ => lifted os started H enc)

/-- The statement. -/
theorem proved : Rows.CodecOrderSaid := over
#print axioms proved
end Go.Proofs.Ytjmpolabpgmjpaa.codecOrder
