/-
  Proved: for every list of values, every number and every byte CodecCuts returns true and leaves its arguments as they were (a row's code that is cut off anywhere, or has a byte more, is none). No condition.
-/
import Derived.Test.YtjmpolabpgmjpaaRows
import Derived.Test.YtjmpolabpgmjpaaArgs
import Derived.Test.YtjmpolabpgmjpaaOpen
import Derived.Test.YtjmpolabpgmjpaaKnown
import Derived.Test.YtjmpolabpgmjpaaTot
import Derived.Test.YtjmpolabpgmjpaaSpanLaw
import Derived.Test.YtjmpolabpgmjpaaUnrow
import Derived.BigQuiet
import Derived.WalkKit
import Derived.ProofKit
import Derived.OpenShut
import Derived.ShutString
import Derived.ChangeOld
import Derived.Below
import Derived.LoopTactic
namespace Go.Proofs.Ytjmpolabpgmjpaa.codecCuts
open Go.ChangeShapes Go.WideShapes Go.ChangeAt Go.RowKit
open Go.ChangeMaps (open_string shut_string)
set_option linter.unusedVariables false

theorem own : ownKnob Try.prog.godebug = none := by kernel_rfl
theorem laidOut : laidOutB Try.prog = true := by kernel_rfl

theorem no_more (vs : List Val) (c : UInt8) (hv : ∀ v ∈ vs, okV v) (hl : vs.length ≤ 8) : NoRow (rowF vs ++ [c]) := by
  intro us hu hul h
  have := (rowF_inj us vs [] [c] hu hv hul hl (by rw [List.append_nil, h])).2
  cases this
theorem no_less (vs : List Val) (k : Nat) (hv : ∀ v ∈ vs, okV v) (hl : vs.length ≤ 8) (hk : k < (rowF vs).length) : NoRow ((rowF vs).take k) := by
  intro us hu hul h
  have := (rowF_inj us vs ((rowF vs).drop k) [] hu hv hul hl (by rw [List.append_nil, h, List.take_append_drop])).2
  have := congrArg List.length this
  simp at this
  omega
theorem unrow_no {b : List UInt8} (hno : NoRow b) {w : World} {e : Ending} {w' : World} (h : UnrowPost b w e w') : e = .returned (.tuple #[.slice none 0 0, .int .i64 70]) ∧ Below w.heap.size w w' := by
  rcases h with ⟨vs, A, n, c, hv, hl, hb, _⟩ | ⟨_, he, hb⟩
  · exact absurd hb (hno vs hv hl)
  · exact ⟨he, hb⟩

set_option maxHeartbeats 1600000 in
theorem walk (a0 : Option Addr) (len0 cap0 : Nat) (vs0 : List Val) (n1 : Int) (c2 : UInt8) (w : World) (hc0 : len0 ≤ cap0) (hm0 : len0 ≤ maxLen) (hv0 : Vals w w.heap.size a0 len0 vs0) (hn1 : -9223372036854775808 ≤ n1 ∧ n1 ≤ 9223372036854775807)
    : Calls Try.prog 8 #[.slice a0 len0 cap0, .int .i64 n1, .int .u8 (n8 c2)] w fun e w' => e = .returned (.bool true) ∧ Below w.heap.size w w' := by
  unfold maxLen at hm0
  go_enter Try.func8, Try.ntmps8
  go_wp2_with fail
  refine (known_any w).mono ?_
  rintro e w2 ⟨rfl, hb2⟩
  have hs2 := hb2.size
  have hv2 := hv0.below hb2
  go_wp2_with fail
  refine (few_any a0 len0 cap0 vs0 _ w2 (by omega) hv2).mono ?_
  rintro e w3 ⟨rfl, rfl⟩
  cases hfew : fewF vs0
  · go_wp2_with fail
    go_ret
    exact ⟨rfl, hb2⟩
  go_wp2_with fail
  refine (row_any a0 len0 cap0 vs0 _ w2 (by omega) hv2 hs2).mono ?_
  rintro e w3 (⟨hbad, rfl, hb3⟩ | ⟨hok, A3, n3, c3, rfl, hown3, hn3, hb3⟩)
  · have hb3' := hb2.trans (hb3.mono hs2)
    have hne : ¬ ((rightF vs0 8 : Nat) : Int) = 0 := by omega
    clear hbad
    generalize rightF vs0 8 = R at *
    go_wp2_with fail
    go_ret
    exact ⟨rfl, hb3'⟩
  have hs3 := hb3.size
  have hb3' := hb2.trans (hb3.mono hs2)
  obtain ⟨hgood, hlen8⟩ : (∀ v ∈ vs0, okV v) ∧ vs0.length ≤ 8 := by
    rcases rightF_cases vs0 8 with ⟨_, hl, hall⟩ | hbad
    · exact ⟨fun v hv => ⟨hall v hv, hv0.2.1 v hv⟩, hl⟩
    · omega
  have HN1 := Lib.hid (no_more vs0 c2 hgood hlen8)
  have HN2 : Hid (∀ k, k < (rowF vs0).length → NoRow ((rowF vs0).take k)) := fun k hk => no_less vs0 k hgood hlen8 hk
  have hrl := hown3.len
  have HRL := Lib.hid hrl
  have hnc3 := hown3.ncap
  clear hok hgood hlen8 hfew hv0 hv2 hrl
  generalize rowF vs0 = b at *
  have tok : True := trivial
  go_wp2_with (first
    | (at_builtin; have _t := tok; refine wpList_append_byt bty _ rfl (.const (.slice none 0 0)) (.tmp 23) rfl rfl rfl (Own.nil_ w3 w3.heap.size 5) hown3.byt (by omega) (Nat.le_refl _) ?_; intro A4 c4 w4 hown4 hb4; have hs4 := hb4.size; simp only [Nat.zero_add, List.nil_append] at hown4; clear tok)
    | (at_builtin; refine wpList_append_byt bty _ rfl (.tmp 24) (.tmp 26) rfl rfl rfl (hown4.alloc _) (Byt.one' w4 5 c2 _ rfl _ (Nat.lt_succ_self _)) (by omega) (by simp; omega) ?_; intro A5 c5 w5 hown5 hb5))
  have hb5' : Below w3.heap.size w3 w5 := (hb4.alloc hs4 _).trans hb5
  have hs5 := hb5'.size
  refine (unrow_any A5 (n3 + 1) c5 (b ++ [c2]) _ w5 (by omega) hown5.ncap hown5.byt (Nat.le_refl _)).mono ?_
  intro e w6 hpost
  obtain ⟨rfl, hb6⟩ := unrow_no HN1.out hpost
  clear hpost
  have hb6' := hb5'.trans (hb6.mono hs5)
  have hb6'' := hb3'.trans (hb6'.mono (by omega))
  have hown6 := hown3.below hb6'
  by_cases hneg : n1 < 0
  · go_wp2_with fail
    go_ret
    exact ⟨rfl, hb6''⟩
  by_cases hbig : (n3 : Int) ≤ n1
  · go_wp2_with fail
    go_ret
    exact ⟨rfl, hb6''⟩
  obtain ⟨K, rfl⟩ : ∃ K : Nat, n1 = (K : Int) := ⟨n1.toNat, by omega⟩
  have hK : K < n3 := by omega
  have HN3 := Lib.hid (HN2.out K (by rw [HRL.out]; exact hK))
  obtain ⟨AQ, hslQ, hbQ⟩ := cut_to bty A3 n3 c3 K (by omega) hnc3
  have hq6 := hbQ _ _ _ hown6.byt
  go_wp2_with fail
  refine (unrow_any AQ K c3 (b.take K) _ w6 (by omega) (by omega) hq6 (Nat.le_refl _)).mono ?_
  intro e w7 hpost
  obtain ⟨rfl, hb7⟩ := unrow_no HN3.out hpost
  clear hpost
  have hb7' := hb6''.trans (hb7.mono hb6''.size)
  go_wp2_with fail
  go_ret
  exact ⟨rfl, hb7'⟩

set_option maxRecDepth 100000 in
theorem lifted (os : Os) (started : os.Started) (H : Type) (enc : TypeId × Value → H) :
    ReturnsInHanded {} Try.checked os 8 .any (Rows.codecCutsSpec.pre6 enc Try.prog Try.f8 Rows.codecCutsRow.domain false) (Rows.codecCutsSpec.post enc Try.prog Try.f8 false true false false) := by
  refine returnsInHanded_of_change (C := Try.checked) own started (by kernel_rfl) Try.func8
    (ChangeSpec.witness6 (enc := enc) (C := Try.checked) false ⟨#[], #[.slice none 0 0, .int .i64 0, .int .u8 0], []⟩ 6 (by kernel_rfl) (by kernel_rfl) (by kernel_rfl) (by kernel_rfl)) ?_
  intro W base args ds gs before hval0 hW hcnd _
  have hval : ∀ (j : Nat) t v, Try.f8.params[j]? = some t → args[j]? = some v → Value.okWide Try.prog W .any base t v := hval0
  have hW' := hW
  obtain ⟨p, q, hA0, hV, rfl, hfz, hnd⟩ := hW
  have hA : DataW.TrodAll enc Try.prog W 0 (fun _ => true) true Try.f8.params.toList args.toList ds p := hA0
  rw [Try.params8] at hA hval
  obtain ⟨v0, vt0, d0, ds0, p0, q0, hargs, rfl, rfl, h0, r0⟩ := trodAll_cons hA
  obtain ⟨v1, vt1, d1, ds1, p1, q1, rfl, rfl, rfl, h1, r1⟩ := trodAll_cons r0
  obtain ⟨v2, vt2, d2, ds2, p2, q2, rfl, rfl, rfl, h2, r2⟩ := trodAll_cons r1
  obtain ⟨rfl, rfl, rfl⟩ := trodAll_nil r2
  obtain rfl : args = #[v0, v1, v2] := by cases args; simp_all
  obtain ⟨rfl, rfl⟩ := trodVars_none hV
  obtain ⟨a0, len0, cap0, rfl⟩ := okWide_slice Try.underlying22 (hval 0 22 v0 rfl rfl)
  have k0 := h0
  have lt0 : ∀ x ∈ p0, x.block < W.heap.size := by obtain ⟨m, hm⟩ := k0; exact DataW.trod_lt m _ _ _ hm
  have k1 := h1
  have lt1 : ∀ x ∈ p1, x.block < W.heap.size := by obtain ⟨m, hm⟩ := k1; exact DataW.trod_lt m _ _ _ hm
  have k2 := h2
  have lt2 : ∀ x ∈ p2, x.block < W.heap.size := by obtain ⟨m, hm⟩ := k2; exact DataW.trod_lt m _ _ _ hm
  obtain ⟨hc0, hm0, vs0, hv0⟩ : len0 ≤ cap0 ∧ len0 ≤ maxLen ∧ ∃ vs, Vals W W.heap.size a0 len0 vs := by
    obtain ⟨fuel, hf⟩ := h0
    exact vals_of hf
  obtain ⟨n1, rfl, rfl, rfl, hn1⟩ := open_int Try.underlying3 (hval 1 3 v1 rfl rfl) h1
  obtain ⟨n2, rfl, rfl, rfl, hn2⟩ := open_int Try.underlying5 (hval 2 5 v2 rfl rfl) h2
  rw [← u8_back n2 hn2] at *
  clear hA0 hval0
  refine (walk a0 len0 cap0 vs0 n1 (UInt8.ofNat n2.toNat) W hc0 hm0 hv0 (i64_range n1 hn1)).mono fun e W' ⟨he, bel⟩ => ?_
  subst he
  exact ⟨_, rfl, _, _, _, [], _, [], hW', trodAll_mk1 (shut_bool Try.underlying4 _), (trodAll_cons_mk (Below.trod laidOut (by kernel_rfl) (of_decide_eq_true (by kernel_rfl)) k0 bel lt0) (trodAll_cons_mk (Below.trod laidOut (by kernel_rfl) (of_decide_eq_true (by kernel_rfl)) k1 bel lt1) (trodAll_cons_mk (Below.trod laidOut (by kernel_rfl) (of_decide_eq_true (by kernel_rfl)) k2 bel lt2) trodAll_mk0))), rfl, bel.frame _, fun h => by cases h⟩

theorem over : Rows.codecCutsRow.holds Try.pinned (OpenSpec.ofChange Rows.codecCutsSpec) :=
  OpenClaim.holds_of_wide 8 Try.f8 rfl rfl rfl rfl rfl rfl rfl ⟨rfl, rfl, rfl, rfl, rfl⟩ rfl rfl rfl rfl rfl (by kernel_rfl) Try.func8 (by kernel_rfl)
    (of_decide_eq_true (by kernel_rfl)) (by unfold Func.isWrapper; first | (rw [if_pos (by decide +kernel)]; kernel_rfl) | (rw [if_neg (by decide +kernel)]; exact ⟨rfl, rfl⟩))
    (fun os started H enc _ => lifted os started H enc)

/-- The statement. -/
theorem proved : Rows.CodecCutsSaid := over
#print axioms proved
end Go.Proofs.Ytjmpolabpgmjpaa.codecCuts
