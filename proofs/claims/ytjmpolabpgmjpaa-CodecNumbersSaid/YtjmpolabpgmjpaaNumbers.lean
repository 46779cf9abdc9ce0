/-
  Proved: for every two integers CodecNumbers returns true (integers' keys stand as the integers do, in nine bytes each; their rows have ten). No condition.
-/
import Derived.Test.YtjmpolabpgmjpaaRows
import Derived.Test.YtjmpolabpgmjpaaOrd
import Derived.Test.YtjmpolabpgmjpaaKnown
import Derived.WalkKit
import Derived.ProofKit
import Derived.OpenShut
import Derived.ShutString
namespace Go.Proofs.Ytjmpolabpgmjpaa.codecNumbers
open Go.ChangeShapes Go.WideShapes Go.ChangeAt Go.RowKit
open Go.ChangeMaps (open_string shut_string)
set_option linter.unusedVariables false      -- a walk need not use every 'w<i>' (that an integer argument fits its kind)

theorem own : ownKnob Try.prog.godebug = none := by kernel_rfl

attribute [local go_sem] strOf_list

theorem one_right (a : Int) (m : Nat) (hm : 1 ≤ m) : rightF [⟨2, a, []⟩] m = 0 := by
  refine rightF_ok _ _ (by simpa using hm) ?_
  simp [isV_two]
theorem one_key (a : Int) : keyF [⟨2, a, []⟩] = 2 :: beTo (BitVec.ofInt 64 a ^^^ 9223372036854775808#64) 8 8 := by
  show List.flatMap keyV [_] = _
  rw [List.flatMap_cons, List.flatMap_nil, List.append_nil]
  rfl
theorem one_row (a : Int) : (rowF [⟨2, a, []⟩]).length = 10 := by
  show (UInt8.ofNat 1 :: List.flatMap rowV [_]).length = 10
  rw [List.flatMap_cons, List.flatMap_nil, List.append_nil]
  show (UInt8.ofNat 1 :: UInt8.ofNat 2 :: leN _ 8).length = 10
  simp [leN_len]
theorem key_less (a b : Int) (ha0 : -9223372036854775808 ≤ a) (ha1 : a ≤ 9223372036854775807) (hb0 : -9223372036854775808 ≤ b) (hb1 : b ≤ 9223372036854775807) :
    Op.bytesLess (keyF [⟨2, a, []⟩]) (keyF [⟨2, b, []⟩]) = decide (a < b) ∧ (keyF [⟨2, a, []⟩] == keyF [⟨2, b, []⟩]) = (a == b) := by
  have ha := turned a ha0 ha1
  have hb := turned b hb0 hb1
  rw [one_key, one_key]
  have hl : (beTo (BitVec.ofInt 64 a ^^^ 9223372036854775808#64) 8 8).length = (beTo (BitVec.ofInt 64 b ^^^ 9223372036854775808#64) 8 8).length := by rw [beTo_len, beTo_len]
  generalize BitVec.ofInt 64 a ^^^ 9223372036854775808#64 = A at *
  generalize BitVec.ofInt 64 b ^^^ 9223372036854775808#64 = B at *
  constructor
  · show (decide ((2 : UInt8) < 2) || ((2 : UInt8) == 2 && Op.bytesLess _ _)) = _
    rw [less_bev _ _ hl, bev_be8, bev_be8, Bool.eq_iff_iff]
    simp
    omega
  · rw [Bool.eq_iff_iff]
    simp only [beq_iff_eq, List.cons.injEq, true_and]
    constructor
    · intro h
      have := congrArg bev h
      rw [bev_be8, bev_be8] at this
      omega
    · intro h
      have hAB : A = B := BitVec.eq_of_toNat_eq (by omega)
      rw [hAB]

set_option maxHeartbeats 1600000 in
theorem walk (a0 : Int) (a1 : Int) (w0 : (Lit.int .i64 a0).wf = true) (w1 : (Lit.int .i64 a1).wf = true) (w : World) :
    Calls Try.prog 5 #[.int .i64 a0, .int .i64 a1] w fun e w' => e = .returned (.bool true) ∧ Below w.heap.size w w' := by
  have hba := bounds_i64 w0
  have hbb := bounds_i64 w1
  have hless := (key_less a0 a1 hba.1 hba.2 hbb.1 hbb.2).1
  have heq := (key_less a0 a1 hba.1 hba.2 hbb.1 hbb.2).2
  have fa : (⟨2, a0, []⟩ : Val).fits := by unfold Val.fits; exact ⟨show (-9223372036854775808 : Int) ≤ 2 by omega, show (2 : Int) ≤ 9223372036854775807 by omega, hba.1, hba.2, Nat.zero_le _⟩
  have fb : (⟨2, a1, []⟩ : Val).fits := by unfold Val.fits; exact ⟨show (-9223372036854775808 : Int) ≤ 2 by omega, show (2 : Int) ≤ 9223372036854775807 by omega, hbb.1, hbb.2, Nat.zero_le _⟩
  have HLESS := Lib.hid hless
  have HEQ := Lib.hid heq
  clear hless heq hba hbb w0 w1
  go_enter Try.func5, Try.ntmps5
  go_wp2_with fail
  refine (known_any w).mono ?_
  rintro e w1 ⟨rfl, hb1⟩
  go_wp2_with fail
  refine (key_ok (some ⟨w1.heap.size, 0, none⟩) 1 1 [⟨2, a0, []⟩] (w1.heap.size + 1) _ (by omega) (Vals.one w1 2 a0 [] fa _ (by omega)) (by simp) (one_right _ _ (by omega)) 9 (by rw [one_key]; simp [beTo_len])).mono ?_
  rintro e w2 ⟨A2, c2, rfl, hown2, _, hb2⟩
  have hb2' : Below w1.heap.size w1 w2 := ((Below.refl _ _).alloc (Nat.le_refl _) _).trans (hb2.mono (by simp))
  have hs2 := hb2'.size
  go_wp2_with fail
  refine (key_ok (some ⟨w2.heap.size, 0, none⟩) 1 1 [⟨2, a1, []⟩] (w2.heap.size + 1) _ (by omega) (Vals.one w2 2 a1 [] fb _ (by omega)) (by simp) (one_right _ _ (by omega)) 9 (by rw [one_key]; simp [beTo_len])).mono ?_
  rintro e w3 ⟨A3, c3, rfl, hown3, _, hb3⟩
  have hb3' : Below w2.heap.size w2 w3 := ((Below.refl _ _).alloc (Nat.le_refl _) _).trans (hb3.mono (by simp))
  have hs3 := hb3'.size
  go_wp2_with fail
  refine (row_ok (some ⟨w3.heap.size, 0, none⟩) 1 1 [⟨2, a0, []⟩] (w3.heap.size + 1) _ (by omega) (Vals.one w3 2 a0 [] fa _ (by omega)) (by simp) (one_right _ _ (by omega)) 10 (one_row a0)).mono ?_
  rintro e w4 ⟨A4, c4, rfl, _, _, hb4⟩
  have hb4' : Below w3.heap.size w3 w4 := ((Below.refl _ _).alloc (Nat.le_refl _) _).trans (hb4.mono (by simp))
  have hx := ((hown2.below hb3').below hb4').byt
  have hy := (hown3.below hb4').byt
  have sx := run_str_byt (S := 9) Try.underlying25 Try.underlying5 Try.underlying9 w4 hx c2
  have sy := run_str_byt (S := 9) Try.underlying25 Try.underlying5 Try.underlying9 w4 hy c3
  have hfin : Below w.heap.size w w4 := hb1.trans ((hb2'.trans ((hb3'.trans (hb4'.mono hs3)).mono hs2)).mono hb1.size)
  clear hb2 hb3 hb4 hown2 hown3 hx hy hb2' hb3' hb4' fa fb
  generalize keyF [⟨2, a0, []⟩] = X at *
  generalize keyF [⟨2, a1, []⟩] = Y at *
  have hl := HLESS.out
  have he := HEQ.out
  go_wp2_with fail
  go_ret
  refine ⟨?_, hfin⟩
  simp

/-! The row's step, written by the kit's program. -/
set_option maxRecDepth 100000 in
theorem lifted (os : Os) (started : os.Started) (H : Type) (enc : TypeId × Value → H) :
    ReturnsInHanded {} Try.checked os 5 .any (Rows.codecNumbersSpec.pre6 enc Try.prog Try.f5 Rows.codecNumbersRow.domain false) (Rows.codecNumbersSpec.post enc Try.prog Try.f5 false true false false) := by
  refine returnsInHanded_of_change (C := Try.checked) own started (by kernel_rfl) Try.func5
    (ChangeSpec.witness6 (enc := enc) (C := Try.checked) false ⟨#[], #[.int .i64 0, .int .i64 0], []⟩ 8 (by kernel_rfl) (by kernel_rfl) (by kernel_rfl) (by kernel_rfl)) ?_
  intro W base args ds gs before hval0 hW hcnd _
  have hval : ∀ (j : Nat) t v, Try.f5.params[j]? = some t → args[j]? = some v → Value.okWide Try.prog W .any base t v := hval0
  have hW' := hW
  obtain ⟨p, q, hA0, hV, rfl, hfz, hnd⟩ := hW
  have hA : DataW.TrodAll enc Try.prog W 0 (fun _ => true) true Try.f5.params.toList args.toList ds p := hA0
  rw [Try.params5] at hA hval
  obtain ⟨v0, vs0, d0, ds0, p0, q0, hargs, rfl, rfl, h0, r0⟩ := trodAll_cons hA
  obtain ⟨v1, vs1, d1, ds1, p1, q1, rfl, rfl, rfl, h1, r1⟩ := trodAll_cons r0
  obtain ⟨rfl, rfl, rfl⟩ := trodAll_nil r1
  obtain rfl : args = #[v0, v1] := by cases args; simp_all
  obtain ⟨rfl, rfl⟩ := trodVars_none hV
  obtain ⟨a0, rfl, rfl, rfl, w0⟩ := open_int Try.underlying2 (hval 0 2 v0 rfl rfl) h0
  obtain ⟨a1, rfl, rfl, rfl, w1⟩ := open_int Try.underlying2 (hval 1 2 v1 rfl rfl) h1
  clear hA0 hval0
  refine (walk a0 a1 w0 w1 W).mono fun e W' ⟨he, bel⟩ => ?_
  subst he
  exact ⟨_, rfl, _, _, _, [], _, [], hW', trodAll_mk1 (shut_bool Try.underlying4 _), (trodAll_cons_mk (shut_int Try.underlying2 w0) (trodAll_cons_mk (shut_int Try.underlying2 w1) trodAll_mk0)), rfl, bel.frame _, fun h => by cases h⟩

theorem over : Rows.codecNumbersRow.holds Try.pinned (OpenSpec.ofChange Rows.codecNumbersSpec) :=
  OpenClaim.holds_of_wide 5 Try.f5 rfl rfl rfl rfl rfl rfl rfl ⟨rfl, rfl, rfl, rfl, rfl⟩ rfl rfl rfl rfl rfl (by kernel_rfl) Try.func5 (by kernel_rfl)
    (of_decide_eq_true (by kernel_rfl)) (by unfold Func.isWrapper; first | (rw [if_pos (by decide +kernel)]; kernel_rfl) | (rw [if_neg (by decide +kernel)]; exact ⟨rfl, rfl⟩))
    (fun os started H enc _ => lifted os started H enc)

/-- The statement. -/
theorem proved : Rows.CodecNumbersSaid :=
  over
#print axioms proved
end Go.Proofs.Ytjmpolabpgmjpaa.codecNumbers
