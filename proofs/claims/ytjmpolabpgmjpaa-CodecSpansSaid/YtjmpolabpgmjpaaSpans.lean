/-
  Proved: for every two lists of values and every number CodecSpans returns true and leaves its arguments as they were (just the keys that begin with some values' key lie from it up to what comes after it). No condition.
-/
import Derived.Test.YtjmpolabpgmjpaaRows
import Derived.Test.YtjmpolabpgmjpaaArgs
import Derived.Test.YtjmpolabpgmjpaaTot
import Derived.Test.YtjmpolabpgmjpaaSpanLaw
import Derived.Test.YtjmpolabpgmjpaaKnown
import Derived.BigQuiet
import Derived.WalkKit
import Derived.ProofKit
import Derived.OpenShut
import Derived.ShutString
import Derived.ChangeOld
import Derived.Below
import Derived.LoopTactic
namespace Go.Proofs.Ytjmpolabpgmjpaa.codecSpans
open Go.ChangeShapes Go.WideShapes Go.ChangeAt Go.RowKit
open Go.ChangeMaps (open_string shut_string)
set_option linter.unusedVariables false

theorem own : ownKnob Try.prog.godebug = none := by kernel_rfl
theorem laidOut : laidOutB Try.prog = true := by kernel_rfl

attribute [local go_sem] strOf_list

set_option maxHeartbeats 1600000 in
theorem walk (a0 : Option Addr) (len0 cap0 : Nat) (a1 : Option Addr) (len1 cap1 : Nat) (n : Int) (vs us : List Val) (w : World) (hc0 : len0 ≤ cap0) (hm0 : len0 ≤ maxLen) (hc1 : len1 ≤ cap1) (hm1 : len1 ≤ maxLen)
    (hv0 : Vals w w.heap.size a0 len0 vs) (hv1 : Vals w w.heap.size a1 len1 us) (hn : -9223372036854775808 ≤ n ∧ n ≤ 9223372036854775807) :
    Calls Try.prog 7 #[.slice a0 len0 cap0, .slice a1 len1 cap1, .int .i64 n] w fun e w' => e = .returned (.bool true) ∧ Below w.heap.size w w' := by
  unfold maxLen at hm0 hm1
  go_enter Try.func7, Try.ntmps7
  go_wp2_with fail
  refine (known_any w).mono ?_
  rintro e w2 ⟨rfl, hb2⟩
  have hs2 := hb2.size
  have hv0' := hv0.below hb2
  have hv1' := hv1.below hb2
  go_wp2_with fail
  refine (few_any a0 len0 cap0 vs _ w2 (by omega) hv0').mono ?_
  rintro e w3 ⟨rfl, rfl⟩
  cases hfew : fewF vs
  · go_wp2_with fail
    go_ret
    exact ⟨rfl, hb2⟩
  go_wp2_with fail
  refine (few_any a1 len1 cap1 us _ w2 (by omega) hv1').mono ?_
  rintro e w3 ⟨rfl, rfl⟩
  cases hfew2 : fewF us
  · go_wp2_with fail
    go_ret
    exact ⟨rfl, hb2⟩
  by_cases hneg : n < 0
  · go_wp2_with fail
    go_ret
    exact ⟨rfl, hb2⟩
  by_cases hbig : (len0 : Int) < n
  · go_wp2_with fail
    go_ret
    exact ⟨rfl, hb2⟩
  obtain ⟨N, rfl⟩ : ∃ N : Nat, n = (N : Int) := ⟨n.toNat, by omega⟩
  have hN : N ≤ len0 := by omega
  go_wp2_with fail
  refine (key_any a0 N cap0 (vs.take N) _ w2 (by omega) (hv0'.take N hN) hs2).mono ?_
  rintro e w3 (⟨hbad, rfl, hb3⟩ | ⟨hok, A3, n3, c3, rfl, hown3, hn3, hb3⟩)
  · have hs3 := hb3.size
    have hb3' := hb2.trans (hb3.mono hs2)
    have hne : ¬ ((rightF (vs.take N) 3 : Nat) : Int) = 0 := by omega
    clear hbad
    generalize rightF (vs.take N) 3 = R at *
    go_wp2_with fail
    refine (key_any a1 len1 cap1 us _ w3 (by omega) (hv1.below hb3') (by omega)).mono ?_
    rintro e w4 (⟨hbad4, rfl, hb4⟩ | ⟨hok4, A4, n4, c4, rfl, hown4, hn4, hb4⟩)
    · have hb4' := hb3'.trans (hb4.mono (by omega))
      clear hbad4
      generalize rightF us 3 = R4 at *
      go_wp2_with fail
      go_ret
      exact ⟨rfl, hb4'⟩
    · have hb4' := hb3'.trans (hb4.mono (by omega))
      clear hok4
      go_wp2_with fail
      go_ret
      exact ⟨rfl, hb4'⟩
  have hs3 := hb3.size
  have hb3' := hb2.trans (hb3.mono hs2)
  have HR := Lib.hid hok
  clear hok
  go_wp2_with fail
  refine (key_any a1 len1 cap1 us _ w3 (by omega) (hv1.below hb3') (by omega)).mono ?_
  rintro e w4 (⟨hbad4, rfl, hb4⟩ | ⟨hok4, A4, n4, c4, rfl, hown4, hn4, hb4⟩)
  · have hb4' := hb3'.trans (hb4.mono (by omega))
    have hne : ¬ ((rightF us 3 : Nat) : Int) = 0 := by omega
    clear hbad4
    generalize rightF us 3 = R4 at *
    go_wp2_with fail
    go_ret
    exact ⟨rfl, hb4'⟩
  have hs4 := hb4.size
  have hb4' := hb3'.trans (hb4.mono (by omega))
  have HR4 := Lib.hid hok4
  clear hok4
  have hp3 := hown3.byt.below hb4
  have hlp := hown3.len
  have hlk := hown4.len
  have HA : Hid (afterN (keyF (vs.take N)) = 0 → N = 0) := by
    intro h0
    rcases rightF_cases (vs.take N) 3 with ⟨_, _, hall⟩ | hbad
    · rcases Nat.eq_zero_or_pos N with h | h
      · exact h
      · have := keyF_after _ hall (by rw [List.length_take, hv0.len]; omega)
        omega
    · have := HR.out
      omega
  have HP0 : Hid (N = 0 → keyF (vs.take N) = []) := by
    intro h0
    rw [h0]; rfl
  have hv0len := hv0.len
  clear HR HR4 hfew hfew2 hv0 hv1 hv0' hv1'
  generalize keyF (vs.take N) = p at *
  generalize keyF us = k at *
  have hc3 := hown3.ncap
  have hc4 := hown4.ncap
  have HLP := Lib.hid hlp
  have HLK := Lib.hid hlk
  clear hlp hlk hv0len
  go_wp2_with fail
  refine (after_any A3 n3 c3 p _ w4 (by omega) hc3 hp3 (by omega)).mono ?_
  rintro e w5 (⟨hz, rfl, hb5⟩ | ⟨hz, A5, c5, rfl, hown5, hb5⟩)
  · have hs5 := hb5.size
    have hb5' := hb4'.trans (hb5.mono (by omega))
    have hN0 := HA.out hz
    have hp0 := HP0.out hN0
    have hp5 := hp3.below (hb5.mono (by omega))
    have hk5 := hown4.byt.below hb5
    clear hz HA HP0
    have HN0 := Lib.hid hN0
    have hn30 : n3 = 0 := by have := HLP.out; rw [hp0] at this; exact this.symm
    have f1 : Op.bytesLess k p = false := by rw [hp0]; exact less_nil k
    have f3 : (k.take n3 == p) = true := by rw [hp0, hn30]; rfl
    clear hp0
    have q0 : ((n3 : Int) ≤ (n4 : Int)) := by omega
    have q1 : decide ((n3 : Int) ≤ (n4 : Int)) = true := by simp; omega
    have q3 : n3 ≤ n4 := by omega
    have q4 : decide (n3 ≤ n4) = true := by simp; omega
    have q5 : (N : Int) = 0 := by omega
    have q6 : N = 0 := by omega
    clear hn30
    obtain ⟨AQ, hslQ, hbQ⟩ := cut_to bty A4 n4 c4 n3 q3 hc4
    have hq5 := hbQ _ _ _ hk5
    have hsK := run_str_byt (S := 9) Try.underlying25 Try.underlying5 Try.underlying9 w5 hk5 c4
    have hsP := run_str_byt (S := 9) Try.underlying25 Try.underlying5 Try.underlying9 w5 hp5 c3
    go_wp2_with fail
    refine (bytes_any AQ n3 c4 (k.take n3) _ A3 n3 c3 p _ w5 hq5 hp5).mono ?_
    rintro e w6 ⟨rfl, rfl⟩
    rw [f3]
    go_wp2_with fail
    go_ret
    exact ⟨rfl, hb5'⟩
  · have hs5 := hb5.size
    have hb5' := hb4'.trans (hb5.mono (by omega))
    have HZ := Lib.hid hz
    clear hz HA HP0
    have hp5 := hp3.below (hb5.mono (by omega))
    have hk5 := hown4.byt.below hb5
    have ha5 := hown5.byt
    have hsK := run_str_byt (S := 9) Try.underlying25 Try.underlying5 Try.underlying9 w5 hk5 c4
    have hsP := run_str_byt (S := 9) Try.underlying25 Try.underlying5 Try.underlying9 w5 hp5 c3
    have hsA := run_str_byt (S := 9) Try.underlying25 Try.underlying5 Try.underlying9 w5 ha5 c5
    by_cases hbeg : k.take p.length = p
    · obtain ⟨f1, f2⟩ := span_in p k HZ.out hbeg
      have f3 : (k.take n3 == p) = true := by rw [← HLP.out, hbeg]; simp
      have q3 : n3 ≤ n4 := by
        have := congrArg List.length hbeg
        rw [List.length_take, HLP.out, HLK.out] at this
        omega
      clear hbeg
      have q0 : ((n3 : Int) ≤ (n4 : Int)) := by omega
      have q1 : decide ((n3 : Int) ≤ (n4 : Int)) = true := by simp; omega
      have q4 : decide (n3 ≤ n4) = true := by simp; omega
      obtain ⟨AQ, hslQ, hbQ⟩ := cut_to bty A4 n4 c4 n3 q3 hc4
      have hq5 := hbQ _ _ _ hk5
      go_wp2_with fail
      refine (bytes_any AQ n3 c4 (k.take n3) _ A3 n3 c3 p _ w5 hq5 hp5).mono ?_
      rintro e w6 ⟨rfl, rfl⟩
      rw [f3]
      go_wp2_with fail
      go_ret
      exact ⟨rfl, hb5'⟩
    · have f3 : (k.take n3 == p) = false := by rw [← HLP.out]; simpa using hbeg
      rcases span_out p k HZ.out hbeg with f1 | ⟨f1, f2⟩
      · clear hbeg
        by_cases hlt : n4 < n3
        · have q0 : ¬ ((n3 : Int) ≤ (n4 : Int)) := by omega
          have q1 : decide ((n3 : Int) ≤ (n4 : Int)) = false := by simp; omega
          have q3 : ¬ n3 ≤ n4 := by omega
          have q4 : decide (n3 ≤ n4) = false := by simp; omega
          go_wp2_with fail
          go_ret
          exact ⟨rfl, hb5'⟩
        · have q0 : ((n3 : Int) ≤ (n4 : Int)) := by omega
          have q1 : decide ((n3 : Int) ≤ (n4 : Int)) = true := by simp; omega
          have q3 : n3 ≤ n4 := by omega
          have q4 : decide (n3 ≤ n4) = true := by simp; omega
          obtain ⟨AQ, hslQ, hbQ⟩ := cut_to bty A4 n4 c4 n3 q3 hc4
          have hq5 := hbQ _ _ _ hk5
          go_wp2_with fail
          refine (bytes_any AQ n3 c4 (k.take n3) _ A3 n3 c3 p _ w5 hq5 hp5).mono ?_
          rintro e w6 ⟨rfl, rfl⟩
          rw [f3]
          go_wp2_with fail
          go_ret
          exact ⟨rfl, hb5'⟩
      · clear hbeg
        by_cases hlt : n4 < n3
        · have q0 : ¬ ((n3 : Int) ≤ (n4 : Int)) := by omega
          have q1 : decide ((n3 : Int) ≤ (n4 : Int)) = false := by simp; omega
          have q3 : ¬ n3 ≤ n4 := by omega
          have q4 : decide (n3 ≤ n4) = false := by simp; omega
          go_wp2_with fail
          go_ret
          exact ⟨rfl, hb5'⟩
        · have q0 : ((n3 : Int) ≤ (n4 : Int)) := by omega
          have q1 : decide ((n3 : Int) ≤ (n4 : Int)) = true := by simp; omega
          have q3 : n3 ≤ n4 := by omega
          have q4 : decide (n3 ≤ n4) = true := by simp; omega
          obtain ⟨AQ, hslQ, hbQ⟩ := cut_to bty A4 n4 c4 n3 q3 hc4
          have hq5 := hbQ _ _ _ hk5
          go_wp2_with fail
          refine (bytes_any AQ n3 c4 (k.take n3) _ A3 n3 c3 p _ w5 hq5 hp5).mono ?_
          rintro e w6 ⟨rfl, rfl⟩
          rw [f3]
          go_wp2_with fail
          go_ret
          exact ⟨rfl, hb5'⟩

set_option maxRecDepth 100000 in
theorem lifted (os : Os) (started : os.Started) (H : Type) (enc : TypeId × Value → H) :
    ReturnsInHanded {} Try.checked os 7 .any (Rows.codecSpansSpec.pre6 enc Try.prog Try.f7 Rows.codecSpansRow.domain false) (Rows.codecSpansSpec.post enc Try.prog Try.f7 false true false false) := by
  refine returnsInHanded_of_change (C := Try.checked) own started (by kernel_rfl) Try.func7
    (ChangeSpec.witness6 (enc := enc) (C := Try.checked) false ⟨#[], #[.slice none 0 0, .slice none 0 0, .int .i64 0], []⟩ 7 (by kernel_rfl) (by kernel_rfl) (by kernel_rfl) (by kernel_rfl)) ?_
  intro W base args ds gs before hval0 hW hcnd _
  have hval : ∀ (j : Nat) t v, Try.f7.params[j]? = some t → args[j]? = some v → Value.okWide Try.prog W .any base t v := hval0
  have hW' := hW
  obtain ⟨p, q, hA0, hV, rfl, hfz, hnd⟩ := hW
  have hA : DataW.TrodAll enc Try.prog W 0 (fun _ => true) true Try.f7.params.toList args.toList ds p := hA0
  rw [Try.params7] at hA hval
  obtain ⟨v0, vs0, d0, ds0, p0, q0, hargs, rfl, rfl, h0, r0⟩ := trodAll_cons hA
  obtain ⟨v1, vs1, d1, ds1, p1, q1, rfl, rfl, rfl, h1, r1⟩ := trodAll_cons r0
  obtain ⟨v2, vs2, d2, ds2, p2, q2, rfl, rfl, rfl, h2, r2⟩ := trodAll_cons r1
  obtain ⟨rfl, rfl, rfl⟩ := trodAll_nil r2
  obtain rfl : args = #[v0, v1, v2] := by cases args; simp_all
  obtain ⟨rfl, rfl⟩ := trodVars_none hV
  obtain ⟨a0, len0, cap0, rfl⟩ := okWide_slice Try.underlying22 (hval 0 22 v0 rfl rfl)
  obtain ⟨a1, len1, cap1, rfl⟩ := okWide_slice Try.underlying22 (hval 1 22 v1 rfl rfl)
  have k0 := h0
  have k1 := h1
  have k2 := h2
  have lt0 : ∀ x ∈ p0, x.block < W.heap.size := by obtain ⟨m, hm⟩ := k0; exact DataW.trod_lt m _ _ _ hm
  have lt1 : ∀ x ∈ p1, x.block < W.heap.size := by obtain ⟨m, hm⟩ := k1; exact DataW.trod_lt m _ _ _ hm
  have lt2 : ∀ x ∈ p2, x.block < W.heap.size := by obtain ⟨m, hm⟩ := k2; exact DataW.trod_lt m _ _ _ hm
  obtain ⟨hc0, hm0, vs, hv0⟩ : len0 ≤ cap0 ∧ len0 ≤ maxLen ∧ ∃ vs, Vals W W.heap.size a0 len0 vs := by
    obtain ⟨fuel, hf⟩ := h0
    exact vals_of hf
  obtain ⟨hc1, hm1, us, hv1⟩ : len1 ≤ cap1 ∧ len1 ≤ maxLen ∧ ∃ us, Vals W W.heap.size a1 len1 us := by
    obtain ⟨fuel, hf⟩ := h1
    exact vals_of hf
  obtain ⟨n, rfl, rfl, rfl, hn⟩ := open_int Try.underlying3 (hval 2 3 v2 rfl rfl) h2
  clear hA0 hval0
  refine (walk a0 len0 cap0 a1 len1 cap1 n vs us W hc0 hm0 hc1 hm1 hv0 hv1 (i64_range n hn)).mono fun e W' ⟨he, bel⟩ => ?_
  subst he
  exact ⟨_, rfl, _, _, _, [], _, [], hW', trodAll_mk1 (shut_bool Try.underlying4 _), (trodAll_cons_mk (Below.trod laidOut (by kernel_rfl) (of_decide_eq_true (by kernel_rfl)) k0 bel lt0) (trodAll_cons_mk (Below.trod laidOut (by kernel_rfl) (of_decide_eq_true (by kernel_rfl)) k1 bel lt1) (trodAll_cons_mk (Below.trod laidOut (by kernel_rfl) (of_decide_eq_true (by kernel_rfl)) k2 bel lt2) trodAll_mk0))), rfl, bel.frame _, fun h => by cases h⟩

theorem over : Rows.codecSpansRow.holds Try.pinned (OpenSpec.ofChange Rows.codecSpansSpec) :=
  OpenClaim.holds_of_wide 7 Try.f7 rfl rfl rfl rfl rfl rfl rfl ⟨rfl, rfl, rfl, rfl, rfl⟩ rfl rfl rfl rfl rfl (by kernel_rfl) Try.func7 (by kernel_rfl)
    (of_decide_eq_true (by kernel_rfl)) (by unfold Func.isWrapper; first | (rw [if_pos (by decide +kernel)]; kernel_rfl) | (rw [if_neg (by decide +kernel)]; exact ⟨rfl, rfl⟩))
    (fun os started H enc _ => lifted os started H enc)

/-- The statement. -/
theorem proved : Rows.CodecSpansSaid := over
#print axioms proved
end Go.Proofs.Ytjmpolabpgmjpaa.codecSpans
