/-
  Proved: for every three byte slices CodecAfter returns true and leaves its arguments as they were (what comes behind a prefix is behind all that begin with it, and ahead of nothing else that is). No condition.
-/
import Derived.Test.YtjmpolabpgmjpaaRows
import Derived.Test.YtjmpolabpgmjpaaOpen
import Derived.Test.YtjmpolabpgmjpaaTot
import Derived.BigQuiet
import Derived.WalkKit
import Derived.ProofKit
import Derived.OpenShut
import Derived.ShutString
import Derived.ChangeOld
import Derived.Below
namespace Go.Proofs.Ytjmpolabpgmjpaa.codecAfter
open Go.ChangeShapes Go.WideShapes Go.ChangeAt Go.RowKit
open Go.ChangeMaps (open_string shut_string)
set_option linter.unusedVariables false

theorem own : ownKnob Try.prog.godebug = none := by kernel_rfl
theorem laidOut : laidOutB Try.prog = true := by kernel_rfl

attribute [local go_sem] strOf_list

set_option maxHeartbeats 1600000 in
theorem walk (a0 : Option Addr) (len0 cap0 : Nat) (z0 : List Int) (a1 : Option Addr) (len1 cap1 : Nat) (z1 : List Int) (a2 : Option Addr) (len2 cap2 : Nat) (z2 : List Int) (w : World) (w0 : IsRow .u8 w a0 len0 cap0 z0) (w1 : IsRow .u8 w a1 len1 cap1 z1) (w2 : IsRow .u8 w a2 len2 cap2 z2) :
    Calls Try.prog 6 #[.slice a0 len0 cap0, .slice a1 len1 cap1, .slice a2 len2 cap2] w fun e w' => e = .returned (.bool true) ∧ Below w.heap.size w w' := by
  obtain ⟨hc0, hm0, p, hp⟩ := isRow_byt w0
  obtain ⟨hc1, hm1, m, hm⟩ := isRow_byt w1
  obtain ⟨hc2, hm2, o, ho⟩ := isRow_byt w2
  clear w0 w1 w2
  unfold maxLen at hm0 hm1 hm2
  go_enter Try.func6, Try.ntmps6
  go_wp2_with fail
  refine (known_any w).mono ?_
  rintro e w2 ⟨rfl, hb2⟩
  have hs2 := hb2.size
  by_cases h3 : 300 < len0
  · go_wp2_with fail
    go_ret
    exact ⟨rfl, hb2⟩
  by_cases h4 : 300 < len1
  · go_wp2_with fail
    go_ret
    exact ⟨rfl, hb2⟩
  by_cases h5 : 300 < len2
  · go_wp2_with fail
    go_ret
    exact ⟨rfl, hb2⟩
  clear hm0 hm1 hm2
  have HP := Lib.hid hp.len
  have HO := Lib.hid ho.len
  go_wp2_with fail
  refine (after_any a0 len0 cap0 p _ w2 (by omega) hc0 (hp.below hb2) hs2).mono ?_
  rintro e w3 (⟨hz, rfl, hb3⟩ | ⟨hz, A3, c3, rfl, hown3, hb3⟩)
  · have hs3 := hb3.size
    have hb3' := hb2.trans (hb3.mono hs2)
    have HZ := Lib.hid hz
    clear hz hb3
    have hp3 := hp.below hb3'
    have hm3 := hm.below hb3'
    have tok : True := trivial
    by_cases hlt : len2 < len0
    · have q0 : ¬ ((len0 : Int) ≤ (len2 : Int)) := by omega
      have q1 : decide ((len0 : Int) ≤ (len2 : Int)) = false := by simp; omega
      have q3 : ¬ len0 ≤ len2 := by omega
      have q4 : decide (len0 ≤ len2) = false := by simp; omega
      go_wp2_with (first
      | (at_builtin; have _t := tok; refine wpList_append_byt bty _ rfl (.const (.slice none 0 0)) (.tmp 31) rfl rfl rfl (Own.nil_ w3 w3.heap.size 5) hp3 (by omega) (Nat.le_refl _) ?_; intro A4 c4 w4 hown4 hb4; have hs4 := hb4.size; have hm4 := (hm3.more (show w.heap.size ≤ w3.heap.size by omega)).below hb4; simp only [Nat.zero_add, List.nil_append] at hown4; clear tok)
      | (at_builtin; refine wpList_append_byt bty _ rfl (.tmp 32) (.tmp 33) rfl rfl rfl hown4 hm4 (by omega) hs4 ?_; intro A5 c5 w5 hown5 hb5; have hb5' := hb3'.trans ((hb4.trans hb5).mono (by omega)); have hw5 := run_str_byt (S := 9) Try.underlying25 Try.underlying5 Try.underlying9 w5 hown5.byt c5; have hsP := fun k => run_str_byt (S := 9) Try.underlying25 Try.underlying5 Try.underlying9 (w5.drewN k) ((hp.below hb5').drewN k) cap0; have hsO := fun k => run_str_byt (S := 9) Try.underlying25 Try.underlying5 Try.underlying9 (w5.drewN k) ((ho.below hb5').drewN k) cap2))

      have hnt : ¬ o.take p.length = p := fun e => by have := congrArg List.length e; rw [List.length_take, HP.out, HO.out] at this; omega
      go_quiet (fail)
      go_wp2_with fail
      · go_ret
        exact absurd (none_never p o (by assumption) HZ.out hnt) id
      · go_ret
        exact ⟨rfl, below_drewN hb5' _⟩
    · have q0 : ((len0 : Int) ≤ (len2 : Int)) := by omega
      have q1 : decide ((len0 : Int) ≤ (len2 : Int)) = true := by simp; omega
      have q3 : len0 ≤ len2 := by omega
      have q4 : decide (len0 ≤ len2) = true := by simp; omega
      obtain ⟨AQ, hslQ, hbQ⟩ := cut_to bty a2 len2 cap2 len0 q3 hc2
      have q2 : (len0 : Int) ≤ (cap2 : Int) := by omega
      go_wp2_with (first
      | (at_builtin; have _t := tok; refine wpList_append_byt bty _ rfl (.const (.slice none 0 0)) (.tmp 31) rfl rfl rfl (Own.nil_ w3 w3.heap.size 5) hp3 (by omega) (Nat.le_refl _) ?_; intro A4 c4 w4 hown4 hb4; have hs4 := hb4.size; have hm4 := (hm3.more (show w.heap.size ≤ w3.heap.size by omega)).below hb4; simp only [Nat.zero_add, List.nil_append] at hown4; clear tok)
      | (at_builtin; refine wpList_append_byt bty _ rfl (.tmp 32) (.tmp 33) rfl rfl rfl hown4 hm4 (by omega) hs4 ?_; intro A5 c5 w5 hown5 hb5; have hb5' := hb3'.trans ((hb4.trans hb5).mono (by omega)); have hw5 := run_str_byt (S := 9) Try.underlying25 Try.underlying5 Try.underlying9 w5 hown5.byt c5; have hsP := fun k => run_str_byt (S := 9) Try.underlying25 Try.underlying5 Try.underlying9 (w5.drewN k) ((hp.below hb5').drewN k) cap0; have hsO := fun k => run_str_byt (S := 9) Try.underlying25 Try.underlying5 Try.underlying9 (w5.drewN k) ((ho.below hb5').drewN k) cap2; have hsQ := fun k => run_str_byt (S := 9) Try.underlying25 Try.underlying5 Try.underlying9 (w5.drewN k) (((hbQ _ _ _ (ho.below hb5'))).drewN k) cap2))

      go_quiet (fail)
      go_wp2_with fail
      · go_ret
        exact ⟨rfl, below_drewN hb5' _⟩
      · rename_i hc
        have hnt : ¬ o.take p.length = p := by
          rw [HP.out]
          simpa using hc.1
        go_ret
        exact absurd (none_never p o hc.2 HZ.out hnt) id
      · go_ret
        exact ⟨rfl, below_drewN hb5' _⟩
  · have hs3 := hb3.size
    have hb3' := hb2.trans (hb3.mono hs2)
    have HZ := Lib.hid hz
    clear hz hb3
    have hp3 := hp.below hb3'
    have hm3 := hm.below hb3'
    have tok : True := trivial
    by_cases hlt : len2 < len0
    · have q0 : ¬ ((len0 : Int) ≤ (len2 : Int)) := by omega
      have q1 : decide ((len0 : Int) ≤ (len2 : Int)) = false := by simp; omega
      have q3 : ¬ len0 ≤ len2 := by omega
      have q4 : decide (len0 ≤ len2) = false := by simp; omega
      go_wp2_with (first
      | (at_builtin; have _t := tok; refine wpList_append_byt bty _ rfl (.const (.slice none 0 0)) (.tmp 31) rfl rfl rfl (Own.nil_ w3 w3.heap.size 5) hp3 (by omega) (Nat.le_refl _) ?_; intro A4 c4 w4 hown4 hb4; have hs4 := hb4.size; have hm4 := (hm3.more (show w.heap.size ≤ w3.heap.size by omega)).below hb4; simp only [Nat.zero_add, List.nil_append] at hown4; clear tok)
      | (at_builtin; refine wpList_append_byt bty _ rfl (.tmp 32) (.tmp 33) rfl rfl rfl hown4 hm4 (by omega) hs4 ?_; intro A5 c5 w5 hown5 hb5; have hb5' := hb3'.trans ((hb4.trans hb5).mono (by omega)); have hw5 := run_str_byt (S := 9) Try.underlying25 Try.underlying5 Try.underlying9 w5 hown5.byt c5; have ha5 := run_str_byt (S := 9) Try.underlying25 Try.underlying5 Try.underlying9 w5 (hown3.byt.below (hb4.trans hb5)) c3; have hless := after_less p m HZ.out; have hsA := fun k => run_str_byt (S := 9) Try.underlying25 Try.underlying5 Try.underlying9 (w5.drewN k) ((hown3.byt.below (hb4.trans hb5)).drewN k) c3; have hsP := fun k => run_str_byt (S := 9) Try.underlying25 Try.underlying5 Try.underlying9 (w5.drewN k) ((hp.below hb5').drewN k) cap0; have hsO := fun k => run_str_byt (S := 9) Try.underlying25 Try.underlying5 Try.underlying9 (w5.drewN k) ((ho.below hb5').drewN k) cap2))

      have hnt : ¬ o.take p.length = p := fun e => by have := congrArg List.length e; rw [List.length_take, HP.out, HO.out] at this; omega
      go_quiet (fail)
      go_wp2_with fail
      · go_ret
        exact ⟨congrArg Ending.returned (congrArg Value.bool (after_ok p o (by assumption) HZ.out hnt)), below_drewN hb5' _⟩
      · go_ret
        exact ⟨rfl, below_drewN hb5' _⟩
    · have q0 : ((len0 : Int) ≤ (len2 : Int)) := by omega
      have q1 : decide ((len0 : Int) ≤ (len2 : Int)) = true := by simp; omega
      have q3 : len0 ≤ len2 := by omega
      have q4 : decide (len0 ≤ len2) = true := by simp; omega
      obtain ⟨AQ, hslQ, hbQ⟩ := cut_to bty a2 len2 cap2 len0 q3 hc2
      have q2 : (len0 : Int) ≤ (cap2 : Int) := by omega
      go_wp2_with (first
      | (at_builtin; have _t := tok; refine wpList_append_byt bty _ rfl (.const (.slice none 0 0)) (.tmp 31) rfl rfl rfl (Own.nil_ w3 w3.heap.size 5) hp3 (by omega) (Nat.le_refl _) ?_; intro A4 c4 w4 hown4 hb4; have hs4 := hb4.size; have hm4 := (hm3.more (show w.heap.size ≤ w3.heap.size by omega)).below hb4; simp only [Nat.zero_add, List.nil_append] at hown4; clear tok)
      | (at_builtin; refine wpList_append_byt bty _ rfl (.tmp 32) (.tmp 33) rfl rfl rfl hown4 hm4 (by omega) hs4 ?_; intro A5 c5 w5 hown5 hb5; have hb5' := hb3'.trans ((hb4.trans hb5).mono (by omega)); have hw5 := run_str_byt (S := 9) Try.underlying25 Try.underlying5 Try.underlying9 w5 hown5.byt c5; have ha5 := run_str_byt (S := 9) Try.underlying25 Try.underlying5 Try.underlying9 w5 (hown3.byt.below (hb4.trans hb5)) c3; have hless := after_less p m HZ.out; have hsA := fun k => run_str_byt (S := 9) Try.underlying25 Try.underlying5 Try.underlying9 (w5.drewN k) ((hown3.byt.below (hb4.trans hb5)).drewN k) c3; have hsP := fun k => run_str_byt (S := 9) Try.underlying25 Try.underlying5 Try.underlying9 (w5.drewN k) ((hp.below hb5').drewN k) cap0; have hsO := fun k => run_str_byt (S := 9) Try.underlying25 Try.underlying5 Try.underlying9 (w5.drewN k) ((ho.below hb5').drewN k) cap2; have hsQ := fun k => run_str_byt (S := 9) Try.underlying25 Try.underlying5 Try.underlying9 (w5.drewN k) (((hbQ _ _ _ (ho.below hb5'))).drewN k) cap2))

      go_quiet (fail)
      go_wp2_with fail
      · go_ret
        exact ⟨rfl, below_drewN hb5' _⟩
      · rename_i hc
        have hnt : ¬ o.take p.length = p := by
          rw [HP.out]
          simpa using hc.1
        go_ret
        exact ⟨congrArg Ending.returned (congrArg Value.bool (after_ok p o hc.2 HZ.out hnt)), below_drewN hb5' _⟩
      · go_ret
        exact ⟨rfl, below_drewN hb5' _⟩

/-! The row's step, written by the kit's program. -/
set_option maxRecDepth 100000 in
theorem lifted (os : Os) (started : os.Started) (H : Type) (enc : TypeId × Value → H) :
    ReturnsInHanded {} Try.checked os 6 .any (Rows.codecAfterSpec.pre6 enc Try.prog Try.f6 Rows.codecAfterRow.domain false) (Rows.codecAfterSpec.post enc Try.prog Try.f6 false true false false) := by
  refine returnsInHanded_of_change (C := Try.checked) own started (by kernel_rfl) Try.func6
    (ChangeSpec.witness6 (enc := enc) (C := Try.checked) false ⟨#[], #[.slice none 0 0, .slice none 0 0, .slice none 0 0], []⟩ 8 (by kernel_rfl) (by kernel_rfl) (by kernel_rfl) (by kernel_rfl)) ?_
  intro W base args ds gs before hval0 hW hcnd _
  have hval : ∀ (j : Nat) t v, Try.f6.params[j]? = some t → args[j]? = some v → Value.okWide Try.prog W .any base t v := hval0
  have hW' := hW
  obtain ⟨p, q, hA0, hV, rfl, hfz, hnd⟩ := hW
  have hA : DataW.TrodAll enc Try.prog W 0 (fun _ => true) true Try.f6.params.toList args.toList ds p := hA0
  rw [Try.params6] at hA hval
  obtain ⟨v0, vs0, d0, ds0, p0, q0, hargs, rfl, rfl, h0, r0⟩ := trodAll_cons hA
  obtain ⟨v1, vs1, d1, ds1, p1, q1, rfl, rfl, rfl, h1, r1⟩ := trodAll_cons r0
  obtain ⟨v2, vs2, d2, ds2, p2, q2, rfl, rfl, rfl, h2, r2⟩ := trodAll_cons r1
  obtain ⟨rfl, rfl, rfl⟩ := trodAll_nil r2
  obtain rfl : args = #[v0, v1, v2] := by cases args; simp_all
  obtain ⟨rfl, rfl⟩ := trodVars_none hV
  obtain ⟨a0, len0, cap0, rfl⟩ := okWide_slice Try.underlying25 (hval 0 25 v0 rfl rfl)
  have k0 := h0
  have lt0 : ∀ x ∈ p0, x.block < W.heap.size := by obtain ⟨m, hm⟩ := k0; exact DataW.trod_lt m _ _ _ hm
  obtain ⟨z0, w0⟩ : ∃ zs, IsRow .u8 W a0 len0 cap0 zs := by
    obtain ⟨fuel, hf⟩ := h0
    rcases open_ints Try.underlying25 Try.underlying5 (by kernel_rfl) hf with ⟨hcs, _⟩ | ⟨x, l, c, zs, hcs, _, hl, hm, hz, _, hcell, hwz⟩
    · simp [Value.cells] at hcs
      obtain ⟨rfl, rfl, rfl⟩ := hcs
      exact ⟨[], .inl ⟨rfl, rfl, rfl, rfl⟩⟩
    · simp [Value.cells] at hcs
      obtain ⟨rfl, rfl, rfl⟩ := hcs
      exact ⟨zs, .inr ⟨_, rfl, hl, hm, by simpa using hz, hcell, hwz⟩⟩
  obtain ⟨a1, len1, cap1, rfl⟩ := okWide_slice Try.underlying25 (hval 1 25 v1 rfl rfl)
  have k1 := h1
  have lt1 : ∀ x ∈ p1, x.block < W.heap.size := by obtain ⟨m, hm⟩ := k1; exact DataW.trod_lt m _ _ _ hm
  obtain ⟨z1, w1⟩ : ∃ zs, IsRow .u8 W a1 len1 cap1 zs := by
    obtain ⟨fuel, hf⟩ := h1
    rcases open_ints Try.underlying25 Try.underlying5 (by kernel_rfl) hf with ⟨hcs, _⟩ | ⟨x, l, c, zs, hcs, _, hl, hm, hz, _, hcell, hwz⟩
    · simp [Value.cells] at hcs
      obtain ⟨rfl, rfl, rfl⟩ := hcs
      exact ⟨[], .inl ⟨rfl, rfl, rfl, rfl⟩⟩
    · simp [Value.cells] at hcs
      obtain ⟨rfl, rfl, rfl⟩ := hcs
      exact ⟨zs, .inr ⟨_, rfl, hl, hm, by simpa using hz, hcell, hwz⟩⟩
  obtain ⟨a2, len2, cap2, rfl⟩ := okWide_slice Try.underlying25 (hval 2 25 v2 rfl rfl)
  have k2 := h2
  have lt2 : ∀ x ∈ p2, x.block < W.heap.size := by obtain ⟨m, hm⟩ := k2; exact DataW.trod_lt m _ _ _ hm
  obtain ⟨z2, w2⟩ : ∃ zs, IsRow .u8 W a2 len2 cap2 zs := by
    obtain ⟨fuel, hf⟩ := h2
    rcases open_ints Try.underlying25 Try.underlying5 (by kernel_rfl) hf with ⟨hcs, _⟩ | ⟨x, l, c, zs, hcs, _, hl, hm, hz, _, hcell, hwz⟩
    · simp [Value.cells] at hcs
      obtain ⟨rfl, rfl, rfl⟩ := hcs
      exact ⟨[], .inl ⟨rfl, rfl, rfl, rfl⟩⟩
    · simp [Value.cells] at hcs
      obtain ⟨rfl, rfl, rfl⟩ := hcs
      exact ⟨zs, .inr ⟨_, rfl, hl, hm, by simpa using hz, hcell, hwz⟩⟩
  clear hA0 hval0
  refine (walk a0 len0 cap0 z0 a1 len1 cap1 z1 a2 len2 cap2 z2 W w0 w1 w2).mono fun e W' ⟨he, bel⟩ => ?_
  subst he
  exact ⟨_, rfl, _, _, _, [], _, [], hW', trodAll_mk1 (shut_bool Try.underlying4 _), (trodAll_cons_mk (Below.trod laidOut (by kernel_rfl) (of_decide_eq_true (by kernel_rfl)) k0 bel lt0) (trodAll_cons_mk (Below.trod laidOut (by kernel_rfl) (of_decide_eq_true (by kernel_rfl)) k1 bel lt1) (trodAll_cons_mk (Below.trod laidOut (by kernel_rfl) (of_decide_eq_true (by kernel_rfl)) k2 bel lt2) trodAll_mk0))), rfl, bel.frame _, fun h => by cases h⟩

theorem over : Rows.codecAfterRow.holds Try.pinned (OpenSpec.ofChange Rows.codecAfterSpec) :=
  OpenClaim.holds_of_wide 6 Try.f6 rfl rfl rfl rfl rfl rfl rfl ⟨rfl, rfl, rfl, rfl, rfl⟩ rfl rfl rfl rfl rfl (by kernel_rfl) Try.func6 (by kernel_rfl)
    (of_decide_eq_true (by kernel_rfl)) (by unfold Func.isWrapper; first | (rw [if_pos (by decide +kernel)]; kernel_rfl) | (rw [if_neg (by decide +kernel)]; exact ⟨rfl, rfl⟩))
    (fun os started H enc _ => lifted os started H enc)

/-- The statement. -/
theorem proved : Rows.CodecAfterSaid := over
#print axioms proved
end Go.Proofs.Ytjmpolabpgmjpaa.codecAfter
