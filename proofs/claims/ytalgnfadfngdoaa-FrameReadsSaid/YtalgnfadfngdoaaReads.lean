/-
  Proved: for every bytes b and every integer n FrameReads returns true and leaves its arguments as they were (every bytes are wrapped, and read as a frame or refused, as the document says). No condition.
-/
import Derived.Test.YtalgnfadfngdoaaRows
import Derived.Test.YtalgnfadfngdoaaOpen
import Derived.Test.YtalgnfadfngdoaaMake
import Derived.WalkKit
import Derived.ProofKit
import Derived.OpenShut
import Derived.ShutString
import Derived.ChangeOld
import Derived.Below
namespace Go.Proofs.Ytalgnfadfngdoaa.frameReads
open Go.ChangeShapes Go.WideShapes Go.ChangeAt Go.RowKit
open Go.ChangeMaps (open_string shut_string)
set_option linter.unusedVariables false

theorem own : ownKnob Try.prog.godebug = none := by kernel_rfl
theorem laidOut : laidOutB Try.prog = true := by kernel_rfl

/-- What stands behind the two readings: a payload of n nought bytes is wrapped, or refused, by its length. -/
theorem reads_end (x : Int) : x < 65534 ∨ 65538 < x ∨ ∃ m : Nat, x = (m : Int) ∧ 65534 ≤ m ∧ m ≤ 65538 := by
  by_cases h : x < 65534
  · exact .inl h
  · by_cases h2 : 65538 < x
    · exact .inr (.inl h2)
    · exact .inr (.inr ⟨x.toNat, by omega, by omega, by omega⟩)

set_option maxHeartbeats 1000000 in
theorem walk (a0 : Option Addr) (len0 cap0 : Nat) (z0 : List Int) (a1 : Int) (w : World) (w0 : IsRow .u8 w a0 len0 cap0 z0) (w1 : (Lit.int .i64 a1).wf = true) :
    Calls Try.prog 5 #[.slice a0 len0 cap0, .int .i64 a1] w fun e w' => e = .returned (.bool true) ∧ Below w.heap.size w w' := by
  obtain ⟨hc, hm, l, hr⟩ := isRow_byt w0
  have hx := reads_end a1
  clear w0 w1
  go_enter Try.func5, Try.ntmps5
  go_wp2_with fail
  refine (known_any w).mono ?_
  rintro e w2 ⟨rfl, hb2⟩
  have hs2 := hb2.size
  by_cases h5 : 5000 < len0
  · unfold maxLen at hm
    go_wp2_with fail
    go_ret
    exact ⟨rfl, hb2⟩
  · clear hm
    have hr2 := hr.below hb2
    go_wp2_with fail
    refine (wrap_yes a0 len0 cap0 l _ w2 (by omega) hr2 hs2).mono ?_
    rintro e w3 ⟨A3, c3, rfl, hown3, hb3⟩
    have hs3 := hb3.size
    have hb3' := hb2.trans (hb3.mono hs2)
    have hr3 := hr.below hb3'
    go_wp2_with fail
    refine (rwrap_yes a0 len0 cap0 l _ w3 (by omega) hr3 (by omega)).mono ?_
    rintro e w4 ⟨A4, c4, rfl, hown4, hb4⟩
    have hs4 := hb4.size
    have hb4' := hb3'.trans (hb4.mono (by omega))
    have hr4 := hr.below hb4'
    have hown34 := hown3.below hb4
    go_wp2_with fail
    refine (bytes_any A3 A4 (len0 + 8) c3 (len0 + 8) c4 _ _ _ _ w4 hown34.byt hown4.byt).mono ?_
    rintro e w5 ⟨rfl, rfl⟩
    have hd : decide (wrapF l = wrapF l) = true := by simp
    rw [hd]
    clear hown3 hown4 hown34 hd
    go_wp2_with fail
    refine (unwrap_any a0 len0 cap0 l _ w4 (by omega) hc hr4 (by omega)).mono ?_
    rintro e w5 ⟨A5, c5, rfl, hp5, hb5⟩
    have hs5 := hb5.size
    have hb5' := hb4'.trans (hb5.mono (by omega))
    have hr5 := hr.below hb5'
    go_wp2_with fail
    refine (runwrap_any a0 len0 cap0 l _ w5 (by omega) hc hr5 (by omega)).mono ?_
    rintro e w6 ⟨A6, c6, rfl, hp6, hb6⟩
    have hs6 := hb6.size
    have hb6' := hb5'.trans (hb6.mono (by omega))
    have hp56 := hp5.below hb6
    go_wp2_with fail
    refine (bytes_any A5 A6 _ c5 _ c6 _ _ _ _ w6 hp56 hp6).mono ?_
    rintro e w7 ⟨rfl, rfl⟩
    have hd : decide (uwPay l = uwPay l) = true := by simp
    rw [hd]
    clear hp5 hp6 hp56 hd hr hr2 hr3 hr4 hr5
    rcases hx with hx | hx | ⟨m, rfl, hx1, hx2⟩
    · go_wp2_with fail
      go_ret
      exact ⟨rfl, hb6'⟩
    · go_wp2_with fail
      go_ret
      exact ⟨rfl, hb6'⟩
    · have hx1' : (65534 : Int) ≤ (m : Int) := by omega
      have hx2' : (m : Int) ≤ 65538 := by omega
      by_cases h6 : m ≤ 65536
      · have h6' : (m : Int) ≤ 65536 := by omega
        go_wp2_with (at_make; refine wpList_make_byt bty _ rfl (.tmp 70) (.tmp 70) rfl w6.heap.size .i64 .i64 _ _ m rfl rfl rfl rfl (by omega) (Nat.le_refl _) ?_; intro w7 hown7 hb7)
        have hs7 := hb7.size
        refine (wrap_yes _ m m _ _ w7 h6 hown7.byt (Nat.le_refl _)).mono ?_
        rintro e w8 ⟨A8, c8, rfl, _, hb8⟩
        have hb8' := hb6'.trans ((hb7.trans (hb8.mono hs7)).mono (by omega))
        clear hown7 hb8 hb7
        go_wp2_with fail
        go_ret
        exact ⟨by simp, hb8'⟩
      · have h6' : (65536 : Int) < (m : Int) := by omega
        go_wp2_with (at_make; refine wpList_make_byt bty _ rfl (.tmp 70) (.tmp 70) rfl w6.heap.size .i64 .i64 _ _ m rfl rfl rfl rfl (by omega) (Nat.le_refl _) ?_; intro w7 hown7 hb7)
        have hs7 := hb7.size
        refine (wrap_no _ m m w7 (by omega)).mono ?_
        rintro e w8 ⟨rfl, rfl⟩
        have hb8' := hb6'.trans (hb7.mono (by omega))
        clear hown7 hb7
        go_wp2_with fail
        go_ret
        exact ⟨by simp, hb8'⟩

/-! The row's step, written by the kit's program. -/
set_option maxRecDepth 100000 in
theorem lifted (os : Os) (started : os.Started) (H : Type) (enc : TypeId × Value → H) :
    ReturnsInHanded {} Try.checked os 5 .any (Rows.frameReadsSpec.pre6 enc Try.prog Try.f5 Rows.frameReadsRow.domain false) (Rows.frameReadsSpec.post enc Try.prog Try.f5 false true false false) := by
  refine returnsInHanded_of_change (C := Try.checked) own started (by kernel_rfl) Try.func5
    (ChangeSpec.witness6 (enc := enc) (C := Try.checked) false ⟨#[], #[.slice none 0 0, .int .i64 0], []⟩ 8 (by kernel_rfl) (by kernel_rfl) (by kernel_rfl) (by kernel_rfl)) ?_
  intro W base args ds gs before hval0 hW hcnd _
  have hval : ∀ (j : Nat) t v, Try.f5.params[j]? = some t → args[j]? = some v → Value.okWide Try.prog W .any base t v := hval0
  have hW' := hW
  obtain ⟨p, q, hA0, hV, rfl, hfz, hnd⟩ := hW
  have hA : DataW.TrodAll enc Try.prog W 0 (fun _ => true) true Try.f5.params.toList args.toList ds p := hA0
  rw [Try.params5] at hA hval
  obtain ⟨v0, vs0, d0, ds0, p0, q0, hargs, rfl, rfl, h0, r0⟩ := trodAll_cons hA
  obtain ⟨v1, vs1, d1, ds1, p1, q1, rfl, rfl, rfl, h1, r1⟩ := trodAll_cons r0
  obtain ⟨rfl, rfl, rfl⟩ := trodAll_nil r1
  obtain rfl : args = #[v0, v1] := by cases args; simp_all
  obtain ⟨rfl, rfl⟩ := trodVars_none hV
  obtain ⟨a0, len0, cap0, rfl⟩ := okWide_slice Try.underlying23 (hval 0 23 v0 rfl rfl)
  have k0 := h0
  have lt0 : ∀ x ∈ p0, x.block < W.heap.size := by obtain ⟨m, hm⟩ := k0; exact DataW.trod_lt m _ _ _ hm
  obtain ⟨z0, w0⟩ : ∃ zs, IsRow .u8 W a0 len0 cap0 zs := by
    obtain ⟨fuel, hf⟩ := h0
    rcases open_ints Try.underlying23 Try.underlying5 (by kernel_rfl) hf with ⟨hcs, _⟩ | ⟨x, l, c, zs, hcs, _, hl, hm, hz, _, hcell, hwz⟩
    · simp [Value.cells] at hcs
      obtain ⟨rfl, rfl, rfl⟩ := hcs
      exact ⟨[], .inl ⟨rfl, rfl, rfl, rfl⟩⟩
    · simp [Value.cells] at hcs
      obtain ⟨rfl, rfl, rfl⟩ := hcs
      exact ⟨zs, .inr ⟨_, rfl, hl, hm, by simpa using hz, hcell, hwz⟩⟩
  obtain ⟨a1, rfl, rfl, rfl, w1⟩ := open_int Try.underlying3 (hval 1 3 v1 rfl rfl) h1
  clear hA0 hval0
  refine (walk a0 len0 cap0 z0 a1 W w0 w1).mono fun e W' ⟨he, bel⟩ => ?_
  subst he
  exact ⟨_, rfl, _, _, _, [], _, [], hW', trodAll_mk1 (shut_bool Try.underlying4 _), (trodAll_cons_mk (Below.trod laidOut (by kernel_rfl) (of_decide_eq_true (by kernel_rfl)) k0 bel lt0) (trodAll_cons_mk (shut_int Try.underlying3 w1) trodAll_mk0)), rfl, bel.frame _, fun h => by cases h⟩

theorem over : Rows.frameReadsRow.holds Try.pinned (OpenSpec.ofChange Rows.frameReadsSpec) :=
  OpenClaim.holds_of_wide 5 Try.f5 rfl rfl rfl rfl rfl rfl rfl ⟨rfl, rfl, rfl, rfl, rfl⟩ rfl rfl rfl rfl rfl (by kernel_rfl) Try.func5 (by kernel_rfl)
    (of_decide_eq_true (by kernel_rfl)) (by unfold Func.isWrapper; first | (rw [if_pos (by decide +kernel)]; kernel_rfl) | (rw [if_neg (by decide +kernel)]; exact ⟨rfl, rfl⟩))
    (fun os started H enc _ => lifted os started H enc)

/-- The statement. -/
theorem proved : Rows.FrameReadsSaid := over
#print axioms proved
end Go.Proofs.Ytalgnfadfngdoaa.frameReads
