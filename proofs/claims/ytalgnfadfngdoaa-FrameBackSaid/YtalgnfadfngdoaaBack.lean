/-
  Proved: for every bytes b and more and every integer cut FrameBack returns true and leaves its arguments as they were (a payload comes back from its frame, whatever stands behind; cut off it is told as too short; sums go on). No condition.
-/
import Derived.Test.YtalgnfadfngdoaaRows
import Derived.Test.YtalgnfadfngdoaaOpen
import Derived.Test.YtalgnfadfngdoaaMake
import Derived.Test.YtalgnfadfngdoaaLaw
import Derived.WalkKit
import Derived.ProofKit
import Derived.OpenShut
import Derived.ShutString
import Derived.ChangeOld
import Derived.Below
namespace Go.Proofs.Ytalgnfadfngdoaa.frameBack
open Go.ChangeShapes Go.WideShapes Go.ChangeAt Go.RowKit
open Go.ChangeMaps (open_string shut_string)
set_option linter.unusedVariables false

theorem own : ownKnob Try.prog.godebug = none := by kernel_rfl
theorem laidOut : laidOutB Try.prog = true := by kernel_rfl

theorem cut_cases (x : Int) (n : Nat) : x < 0 ∨ (n : Int) ≤ x ∨ ∃ m : Nat, x = (m : Int) ∧ m < n := by
  by_cases h : x < 0
  · exact .inl h
  · by_cases h2 : (n : Int) ≤ x
    · exact .inr (.inl h2)
    · exact .inr (.inr ⟨x.toNat, by omega, by omega⟩)

set_option maxHeartbeats 1600000 in
theorem walk (a0 : Option Addr) (len0 cap0 : Nat) (z0 : List Int) (a1 : Option Addr) (len1 cap1 : Nat) (z1 : List Int) (a2 : Int) (w : World) (w0 : IsRow .u8 w a0 len0 cap0 z0) (w1 : IsRow .u8 w a1 len1 cap1 z1) (w2 : (Lit.int .i64 a2).wf = true) :
    Calls Try.prog 6 #[.slice a0 len0 cap0, .slice a1 len1 cap1, .int .i64 a2] w fun e w' => e = .returned (.bool true) ∧ Below w.heap.size w w' := by
  obtain ⟨hc, hm, l, hr⟩ := isRow_byt w0
  obtain ⟨hc1, hm1, l1, hr1⟩ := isRow_byt w1
  have hx := cut_cases a2 (len0 + 8)
  clear w0 w1 w2
  go_enter Try.func6, Try.ntmps6
  go_wp2_with fail
  refine (known_any w).mono ?_
  rintro e w2 ⟨rfl, hb2⟩
  have hs2 := hb2.size
  unfold maxLen at hm hm1
  by_cases h5 : 3000 < len0
  · go_wp2_with fail
    go_ret
    exact ⟨rfl, hb2⟩
  · by_cases h6 : 3000 < len1
    · go_wp2_with fail
      go_ret
      exact ⟨rfl, hb2⟩
    · clear hm hm1
      have hlen : l.length ≤ 65536 := by have := hr.len; omega
      have HL := Lib.hid hr.len
      have hr2 := hr.below hb2
      go_wp2_with fail
      refine (wrap_yes a0 len0 cap0 l _ w2 (by omega) hr2 hs2).mono ?_
      rintro e w3 ⟨A3, c3, rfl, hown3, hb3⟩
      have hs3 := hb3.size
      have hb3' := hb2.trans (hb3.mono hs2)
      have hr3 := hr.below hb3'
      have hn8 : ((((len0 + 8 : Nat) : Int)) != (len0 : Int) + 8) = false := by simp
      go_wp2_with fail
      refine (sum_any a0 len0 cap0 l _ w3 (by omega) hr3 (by omega)).mono ?_
      rintro e w4 ⟨rfl, hb4⟩
      have hs4 := hb4.size
      have hb4' := hb3'.trans (hb4.mono (by omega))
      go_wp2_with fail
      refine (add_any _ _ rfl a1 len1 cap1 l1 _ w4 (by omega) (hr1.below hb4') (by omega)).mono ?_
      rintro e w5 ⟨rfl, hb5⟩
      have hs5 := hb5.size
      have hb5' := hb4'.trans (hb5.mono (by omega))
      have hr5 := hr.below hb5'
      rw [addF_sum]
      have tok : True := trivial
      go_wp2_with (first
        | (at_builtin; have _t := tok; refine wpList_append_byt_g bty _ rfl (.const (.slice none 0 0)) (.tmp 41) rfl rfl rfl (Own.nil_ w5 w5.heap.size 5) hr5 (by omega) (Nat.le_refl _) ?_; intro A6 c6 w6 hown6 hb6; have hs6 := hb6.size; have hb6' := hb5'.trans (hb6.mono (by omega)); have hr6 := hr1.below hb6'; simp only [Nat.zero_add, List.nil_append] at hown6)
        | (at_builtin; refine wpList_append_byt_g bty _ rfl (.tmp 42) (.tmp 43) rfl rfl rfl hown6 hr6 (by omega) hs6 ?_; intro A7 c7 w7 hown7 hb7))
      have hs7 := hb7.size
      have hb7' := hb6'.trans (hb7.mono (by omega))
      refine (sum_any A7 (len0 + len1) c7 _ _ w7 (by omega) hown7.byt (Nat.le_refl _)).mono ?_
      rintro e w8 ⟨rfl, hb8⟩
      have hs8 := hb8.size
      have hb8' := hb7'.trans (hb8.mono (by omega))
      have hown8 : Own w8 w2.heap.size 5 A3 (len0 + 8) c3 (wrapF l) := ((((hown3.below hb4).below hb5).below (hb6.trans hb7)).below hb8)
      have hr8 := hr1.below hb8'
      have hcap8 := hown8.cap
      clear hown3 hown6 hown7 hb3 hb4 hb5 hb6 hb7 hb8 hr2 hr3 hr5 hr6 hb3' hb4' hb5' hb6' hb7' tok
      generalize sumF (l ++ l1) = S8 at *
      have hbyt8 := hown8.byt
      have tok2 : True := trivial
      go_wp2_with (first
        | (at_builtin; have _t := tok2; refine wpList_append_byt bty _ rfl (.const (.slice none 0 0)) (.tmp 49) rfl rfl rfl (Own.nil_ w8 w8.heap.size 5) hbyt8 (by omega) (Nat.le_refl _) ?_; intro A9 c9 w9 hown9 hb9; have hs9 := hb9.size; have hb9' := hb8'.trans (hb9.mono (by omega)); have hr9 := hr1.below hb9'; simp only [Nat.zero_add, List.nil_append] at hown9; clear tok2)
        | (at_builtin; refine wpList_append_byt bty _ rfl (.tmp 50) (.tmp 51) rfl rfl rfl hown9 hr9 (by omega) hs9 ?_; intro A10 c10 w10 hown10 hb10))
      have hs10 := hb10.size
      have hb10' := hb9'.trans (hb10.mono (by omega))
      refine (unwrap_back A10 _ c10 l l1 len0 _ w10 (by omega) hown10.cap hown10.byt (Nat.le_refl _) HL.out (by omega)).mono ?_
      rintro e w11 ⟨A11, c11, rfl, hp11, hb11⟩
      have hs11 := hb11.size
      have hb11' := hb10'.trans (hb11.mono (by omega))
      have hown11 : Own w11 w2.heap.size 5 A3 (len0 + 8) c3 (wrapF l) := (hown8.below (hb9.trans hb10)).below hb11
      have hr11 := hr.below hb11'
      clear hown8 hown9 hown10 hb9 hb10 hb11 hb8' hb9' hb10' hr8 hr9 hbyt8
      go_wp2_with fail
      refine (bytes_any A11 a0 _ c11 _ cap0 _ _ _ _ w11 hp11 hr11).mono ?_
      rintro e w12 ⟨rfl, rfl⟩
      have hd : decide (l = l) = true := by simp
      rw [hd]
      clear hd hp11
      rcases hx with hx | hx | ⟨m, rfl, hx⟩
      · go_wp2_with fail
        go_ret
        exact ⟨rfl, hb11'⟩
      · have hx' : (len0 : Int) + 8 ≤ a2 := by omega
        have hx2 : ¬ a2 < 0 := by omega
        go_wp2_with fail
        go_ret
        exact ⟨rfl, hb11'⟩
      · have hx' : (m : Int) < (len0 : Int) + 8 := by omega
        have hx2 : (m : Int) ≤ (c3 : Int) := by omega
        have rC := hown11.byt.mid (i := 0) (j := m) (A' := A3) (by omega) (by omega) (by rintro _ b off rfl; rfl)
        simp only [Nat.sub_zero, List.drop_zero] at rC
        have hcut := Lib.hid (unwrap_bad A3 m c3 _ 21 21 _ w11 (by omega) (by omega) rC (Nat.le_refl _) (uwErr_cut l m hlen (by have := HL.out; omega)) rfl (by omega))
        clear rC
        go_wp2_with fail
        refine hcut.out.mono ?_
        rintro e w13 ⟨A13, c13, rfl, hb13⟩
        clear hcut
        go_wp2_with fail
        go_ret
        exact ⟨by simp, hb11'.trans (hb13.mono (by omega))⟩

/-! The row's step, written by the kit's program. -/
set_option maxRecDepth 100000 in
theorem lifted (os : Os) (started : os.Started) (H : Type) (enc : TypeId × Value → H) :
    ReturnsInHanded {} Try.checked os 6 .any (Rows.frameBackSpec.pre6 enc Try.prog Try.f6 Rows.frameBackRow.domain false) (Rows.frameBackSpec.post enc Try.prog Try.f6 false true false false) := by
  refine returnsInHanded_of_change (C := Try.checked) own started (by kernel_rfl) Try.func6
    (ChangeSpec.witness6 (enc := enc) (C := Try.checked) false ⟨#[], #[.slice none 0 0, .slice none 0 0, .int .i64 0], []⟩ 8 (by kernel_rfl) (by kernel_rfl) (by kernel_rfl) (by kernel_rfl)) ?_
  intro W base args ds gs before hval0 hW hcnd _
  have hval : ∀ (j : Nat) t v, Try.f6.params[j]? = some t → args[j]? = some v → Value.okWide Try.prog W .any base t v := hval0
  have hW' := hW
  obtain ⟨p, q, hA0, hV, rfl, hfz, hnd⟩ := hW
  have hA : DataW.TrodAll enc Try.prog W 0 (fun _ => true) true Try.f6.params.toList args.toList ds p := hA0
  rw [Try.params6] at hA hval
  obtain ⟨v0, vs0, d0, ds0, p0, q0, hargs, rfl, rfl, h0, r0⟩ := trodAll_cons hA
  obtain ⟨v1, vs1, d1, ds1, p1, q1, rfl, rfl, rfl, h1, r1⟩ := trodAll_cons r0
  obtain ⟨v2, vs2, d2, ds2, p2, q2, rfl, rfl, rfl, h2, r2⟩ := trodAll_cons r1
  obtain ⟨rfl, rfl, rfl⟩ := trodAll_nil r2
  obtain rfl : args = #[v0, v1, v2] := by cases args; simp_all
  obtain ⟨rfl, rfl⟩ := trodVars_none hV
  obtain ⟨a0, len0, cap0, rfl⟩ := okWide_slice Try.underlying23 (hval 0 23 v0 rfl rfl)
  have k0 := h0
  have lt0 : ∀ x ∈ p0, x.block < W.heap.size := by obtain ⟨m, hm⟩ := k0; exact DataW.trod_lt m _ _ _ hm
  obtain ⟨z0, w0⟩ : ∃ zs, IsRow .u8 W a0 len0 cap0 zs := by
    obtain ⟨fuel, hf⟩ := h0
    rcases open_ints Try.underlying23 Try.underlying5 (by kernel_rfl) hf with ⟨hcs, _⟩ | ⟨x, l, c, zs, hcs, _, hl, hm, hz, _, hcell, hwz⟩
    · simp [Value.cells] at hcs
      obtain ⟨rfl, rfl, rfl⟩ := hcs
      exact ⟨[], .inl ⟨rfl, rfl, rfl, rfl⟩⟩
    · simp [Value.cells] at hcs
      obtain ⟨rfl, rfl, rfl⟩ := hcs
      exact ⟨zs, .inr ⟨_, rfl, hl, hm, by simpa using hz, hcell, hwz⟩⟩
  obtain ⟨a1, len1, cap1, rfl⟩ := okWide_slice Try.underlying23 (hval 1 23 v1 rfl rfl)
  have k1 := h1
  have lt1 : ∀ x ∈ p1, x.block < W.heap.size := by obtain ⟨m, hm⟩ := k1; exact DataW.trod_lt m _ _ _ hm
  obtain ⟨z1, w1⟩ : ∃ zs, IsRow .u8 W a1 len1 cap1 zs := by
    obtain ⟨fuel, hf⟩ := h1
    rcases open_ints Try.underlying23 Try.underlying5 (by kernel_rfl) hf with ⟨hcs, _⟩ | ⟨x, l, c, zs, hcs, _, hl, hm, hz, _, hcell, hwz⟩
    · simp [Value.cells] at hcs
      obtain ⟨rfl, rfl, rfl⟩ := hcs
      exact ⟨[], .inl ⟨rfl, rfl, rfl, rfl⟩⟩
    · simp [Value.cells] at hcs
      obtain ⟨rfl, rfl, rfl⟩ := hcs
      exact ⟨zs, .inr ⟨_, rfl, hl, hm, by simpa using hz, hcell, hwz⟩⟩
  obtain ⟨a2, rfl, rfl, rfl, w2⟩ := open_int Try.underlying3 (hval 2 3 v2 rfl rfl) h2
  clear hA0 hval0
  refine (walk a0 len0 cap0 z0 a1 len1 cap1 z1 a2 W w0 w1 w2).mono fun e W' ⟨he, bel⟩ => ?_
  subst he
  exact ⟨_, rfl, _, _, _, [], _, [], hW', trodAll_mk1 (shut_bool Try.underlying4 _), (trodAll_cons_mk (Below.trod laidOut (by kernel_rfl) (of_decide_eq_true (by kernel_rfl)) k0 bel lt0) (trodAll_cons_mk (Below.trod laidOut (by kernel_rfl) (of_decide_eq_true (by kernel_rfl)) k1 bel lt1) (trodAll_cons_mk (shut_int Try.underlying3 w2) trodAll_mk0))), rfl, bel.frame _, fun h => by cases h⟩

theorem over : Rows.frameBackRow.holds Try.pinned (OpenSpec.ofChange Rows.frameBackSpec) :=
  OpenClaim.holds_of_wide 6 Try.f6 rfl rfl rfl rfl rfl rfl rfl ⟨rfl, rfl, rfl, rfl, rfl⟩ rfl rfl rfl rfl rfl (by kernel_rfl) Try.func6 (by kernel_rfl)
    (of_decide_eq_true (by kernel_rfl)) (by unfold Func.isWrapper; first | (rw [if_pos (by decide +kernel)]; kernel_rfl) | (rw [if_neg (by decide +kernel)]; exact ⟨rfl, rfl⟩))
    (fun os started H enc _ => lifted os started H enc)

/-- The statement. -/
theorem proved : Rows.FrameBackSaid := over
#print axioms proved
end Go.Proofs.Ytalgnfadfngdoaa.frameBack
