/-
  Proved: for every list of values and every bytes CodecBack returns true and leaves its arguments as they were (rows and keys come back from their bytes; what is read has these bytes). No condition.
-/
import Derived.Test.YtjmpolabpgmjpaaRows
import Derived.Test.YtjmpolabpgmjpaaArgs
import Derived.Test.YtjmpolabpgmjpaaOpen
import Derived.Test.YtjmpolabpgmjpaaKnown
import Derived.Test.YtjmpolabpgmjpaaTot
import Derived.Test.YtjmpolabpgmjpaaSpanLaw
import Derived.Test.YtjmpolabpgmjpaaUnkey
import Derived.Test.YtjmpolabpgmjpaaSame
import Derived.BigQuiet
import Derived.WalkKit
import Derived.ProofKit
import Derived.OpenShut
import Derived.ShutString
import Derived.ChangeOld
import Derived.Below
import Derived.LoopTactic
namespace Go.Proofs.Ytjmpolabpgmjpaa.codecBack
open Go.ChangeShapes Go.WideShapes Go.ChangeAt Go.RowKit
open Go.ChangeMaps (open_string shut_string)
set_option linter.unusedVariables false

theorem own : ownKnob Try.prog.godebug = none := by kernel_rfl
theorem laidOut : laidOutB Try.prog = true := by kernel_rfl

theorem unrow_row {vs : List Val} (hv : ∀ v ∈ vs, okV v) (hl : vs.length ≤ 8) {w : World} {e : Ending} {w' : World} (h : UnrowPost (rowF vs) w e w') :
    ∃ A n c, e = .returned (.tuple #[.slice A n c, .int .i64 0]) ∧ OwnV w' w.heap.size A n c vs ∧ Below w.heap.size w w' := by
  rcases h with ⟨us, A, n, c, hu, hul, hb, he, ho, hbw⟩ | ⟨hno, _⟩
  · obtain ⟨rfl, _⟩ := rowF_inj us vs [] [] hu hv hul hl (by rw [hb])
    exact ⟨A, n, c, he, ho, hbw⟩
  · exact absurd rfl (hno vs hv hl)
theorem unkey_key {vs : List Val} (hv : ∀ v ∈ vs, okV v) (hl : vs.length ≤ 3) {w : World} {e : Ending} {w' : World} (h : UnkeyPost (keyF vs) w e w') :
    ∃ A n c, e = .returned (.tuple #[.slice A n c, .int .i64 0]) ∧ OwnV w' w.heap.size A n c vs ∧ Below w.heap.size w w' := by
  rcases h with ⟨us, A, n, c, hu, hul, hb, he, ho, hbw⟩ | ⟨hno, _⟩
  · obtain rfl := keyF_inj us vs hu hv hb
    exact ⟨A, n, c, he, ho, hbw⟩
  · exact absurd rfl (hno vs hv hl)
theorem row_ok8 {vs : List Val} (hv : ∀ v ∈ vs, okV v) (hl : vs.length ≤ 8) {w : World} {e : Ending} {w' : World} (h : RowPost vs w e w') :
    ∃ A n c, e = .returned (.tuple #[.slice A n c, .int .i64 0]) ∧ Own w' w.heap.size 5 A n c (rowF vs) ∧ n ≤ 500 ∧ Below w.heap.size w w' := by
  rcases h with ⟨h0, _⟩ | ⟨_, A, n, c, he, ho, hn, hb⟩
  · exact absurd (right_ok vs 8 hv hl) h0
  · exact ⟨A, n, c, he, ho, hn, hb⟩
theorem key_ok3 {vs : List Val} (hv : ∀ v ∈ vs, okV v) (hl : vs.length ≤ 3) {w : World} {e : Ending} {w' : World} (h : KeyPost vs w e w') :
    ∃ A n c, e = .returned (.tuple #[.slice A n c, .int .i64 0]) ∧ Own w' w.heap.size 5 A n c (keyF vs) ∧ n ≤ 200 ∧ Below w.heap.size w w' := by
  rcases h with ⟨h0, _⟩ | ⟨_, A, n, c, he, ho, hn, hb⟩
  · exact absurd (right_ok vs 3 hv hl) h0
  · exact ⟨A, n, c, he, ho, hn, hb⟩

def rowL (vs : List Val) : List UInt8 := if rightF vs 8 = 0 then rowF vs else []
def keyL (vs : List Val) : List UInt8 := if rightF vs 3 = 0 then keyF vs else []
theorem row_flat {vs : List Val} {w : World} {e : Ending} {w' : World} (h : RowPost vs w e w') :
    ∃ A n c, e = .returned (.tuple #[.slice A n c, .int .i64 (rightF vs 8)]) ∧ Byt w' w'.heap.size A n (rowL vs) ∧ n ≤ c ∧ n ≤ 500 ∧ Below w.heap.size w w' := by
  rcases h with ⟨h0, rfl, hb⟩ | ⟨h0, A, n, c, rfl, ho, hn, hb⟩
  · exact ⟨none, 0, 0, rfl, by unfold rowL; rw [if_neg h0]; exact Byt.nil_ _, by omega, by omega, hb⟩
  · exact ⟨A, n, c, by rw [h0]; rfl, by unfold rowL; rw [if_pos h0]; exact ho.byt, ho.ncap, hn, hb⟩
theorem key_flat {vs : List Val} {w : World} {e : Ending} {w' : World} (h : KeyPost vs w e w') :
    ∃ A n c, e = .returned (.tuple #[.slice A n c, .int .i64 (rightF vs 3)]) ∧ Byt w' w'.heap.size A n (keyL vs) ∧ n ≤ c ∧ n ≤ 500 ∧ Below w.heap.size w w' := by
  rcases h with ⟨h0, rfl, hb⟩ | ⟨h0, A, n, c, rfl, ho, hn, hb⟩
  · exact ⟨none, 0, 0, rfl, by unfold keyL; rw [if_neg h0]; exact Byt.nil_ _, by omega, by omega, hb⟩
  · exact ⟨A, n, c, by rw [h0]; rfl, by unfold keyL; rw [if_pos h0]; exact ho.byt, ho.ncap, by omega, hb⟩
theorem unrow_flat {b : List UInt8} {w : World} {e : Ending} {w' : World} (h : UnrowPost b w e w') :
    ∃ (E : Int) (vs : List Val) (A : Option Addr) (n c : Nat), e = .returned (.tuple #[.slice A n c, .int .i64 E]) ∧ Below w.heap.size w w' ∧ ((E = 0 ∧ (∀ v ∈ vs, okV v) ∧ vs.length ≤ 8 ∧ rowF vs = b ∧ OwnV w' w.heap.size A n c vs) ∨ E = 70) := by
  rcases h with ⟨us, A, n, c, hu, hul, hb, he, ho, hbw⟩ | ⟨hno, he, hb⟩
  · exact ⟨0, us, A, n, c, he, hbw, .inl ⟨rfl, hu, hul, hb, ho⟩⟩
  · exact ⟨70, [], none, 0, 0, he, hb, .inr rfl⟩
theorem unkey_flat {b : List UInt8} {w : World} {e : Ending} {w' : World} (h : UnkeyPost b w e w') :
    ∃ (E : Int) (vs : List Val) (A : Option Addr) (n c : Nat), e = .returned (.tuple #[.slice A n c, .int .i64 E]) ∧ Below w.heap.size w w' ∧ ((E = 0 ∧ (∀ v ∈ vs, okV v) ∧ vs.length ≤ 3 ∧ keyF vs = b ∧ OwnV w' w.heap.size A n c vs) ∨ E = 70) := by
  rcases h with ⟨us, A, n, c, hu, hul, hb, he, ho, hbw⟩ | ⟨hno, he, hb⟩
  · exact ⟨0, us, A, n, c, he, hbw, .inl ⟨rfl, hu, hul, hb, ho⟩⟩
  · exact ⟨70, [], none, 0, 0, he, hb, .inr rfl⟩
theorem good_of (vs : List Val) (most : Nat) (h : rightF vs most = 0) (hf : ∀ v ∈ vs, v.fits) : (∀ v ∈ vs, okV v) ∧ vs.length ≤ most := by
  rcases rightF_cases vs most with ⟨_, hl, hall⟩ | hbad
  · exact ⟨fun v hv => ⟨hall v hv, hf v hv⟩, hl⟩
  · omega

set_option maxRecDepth 20000 in
set_option maxHeartbeats 6400000 in
theorem walk (a0 : Option Addr) (len0 cap0 : Nat) (vs0 : List Val) (a1 : Option Addr) (len1 cap1 : Nat) (bs1 : List UInt8) (w : World) (hc0 : len0 ≤ cap0) (hm0 : len0 ≤ maxLen) (hv0 : Vals w w.heap.size a0 len0 vs0) (hc1 : len1 ≤ cap1) (hm1 : len1 ≤ maxLen) (hb1 : Byt w w.heap.size a1 len1 bs1)
    : Calls Try.prog 9 #[.slice a0 len0 cap0, .slice a1 len1 cap1] w fun e w' => e = .returned (.bool true) ∧ Below w.heap.size w w' := by
  unfold maxLen at hm0 hm1
  go_enter Try.func9, Try.ntmps9
  go_wp2_with fail
  refine (known_any w).mono ?_
  rintro e w2 ⟨rfl, hb2⟩
  have hs2 := hb2.size
  have hv2 := hv0.below hb2
  go_wp2_with fail
  refine (few_any a0 len0 cap0 vs0 _ w2 (by omega) hv2).mono ?_
  rintro e w3 ⟨rfl, rfl⟩
  cases hfew : fewF vs0
  · go_wp2_with fail
    go_ret
    exact ⟨rfl, hb2⟩
  by_cases hbig : 1000 < len1
  · go_wp2_with fail
    go_ret
    exact ⟨rfl, hb2⟩
  have hbig1 : len1 ≤ 1000 := by omega
  have HB1 := Lib.hid hb1
  have HF : Hid (∀ v ∈ vs0, v.fits) := hv0.2.1
  have HV0 := Lib.hid hv0
  have hlen := Lib.hid hv0.len
  clear hfew hm1 hv0 hb1
  go_wp2_with fail
  refine (row_any a0 len0 cap0 vs0 _ w2 (by omega) (HV0.out.below hb2) hs2).mono ?_
  intro e w3 hpost
  obtain ⟨A3, n3, c3, rfl, hy3, hc3, hn3, hbx⟩ := row_flat hpost
  clear hpost
  have hb3' := hb2.trans (hbx.mono hs2)
  have hs3 := hb3'.size
  obtain ⟨R, hR⟩ : ∃ R, R = rightF vs0 8 := ⟨_, rfl⟩
  have HR := Lib.hid hR
  rw [← hR]
  clear hR hbx
  go_upto_if 29 with fail
  go_cut [7] (fun _ wx => Below w.heap.size w wx)
  case first =>
    by_cases h0 : R = 0
    · obtain ⟨hgood, hlen8⟩ := good_of vs0 8 (by rw [← HR.out, h0]) HF.out
      have hrl : rowL vs0 = rowF vs0 := by unfold rowL; rw [if_pos (by rw [← HR.out, h0])]
      rw [hrl] at hy3
      have HG := Lib.hid hgood
      subst h0
      clear hgood hrl HR
      go_wp2_with fail
      refine (unrow_any A3 n3 c3 (rowF vs0) _ w3 (by omega) hc3 hy3 (Nat.le_refl _)).mono ?_
      intro e w4 hpost
      obtain ⟨A4, n4, c4, rfl, hown4, hb4⟩ := unrow_row HG.out hlen8 hpost
      clear hpost
      have hb4' := hb3'.trans (hb4.mono hs3)
      have hl4 := Lib.hid hown4.len
      have hvals := hown4.vals HF.out
      go_wp2_with fail
      refine (same_any A4 n4 c4 _ a0 len0 cap0 _ vs0 w4 (by have := hl4.out; have := hlen.out; omega) hvals (HV0.out.below hb4')).mono ?_
      rintro e w5 ⟨rfl, m5, rfl⟩
      go_wp2_with fail
      go_meet
      exact below_drewN hb4' _
    · have h0' : ¬ (R : Int) = 0 := by omega
      go_wp2_with fail
      go_meet
      exact hb3'
  case rest =>
    clear hb3' hs3 hy3 hc3 hn3 HR
    have hs5 := hcut.size
    go_wp2_with fail
    refine (key_any a0 len0 cap0 vs0 _ wc (by omega) (HV0.out.below hcut) hs5).mono ?_
    intro e w6 hpost
    obtain ⟨A3, n3, c3, rfl, hy3, hc3, hn3, hbx⟩ := key_flat hpost
    clear hpost
    have hb3' := hcut.trans (hbx.mono hs5)
    have hs3 := hb3'.size
    obtain ⟨R, hR⟩ : ∃ R, R = rightF vs0 3 := ⟨_, rfl⟩
    have HR := Lib.hid hR
    rw [← hR]
    clear hR hbx
    go_upto_if 49 with fail
    go_cut [10] (fun _ wx => Below w.heap.size w wx)
    case first =>
      by_cases h0 : R = 0
      · obtain ⟨hgood, hlen8⟩ := good_of vs0 3 (by rw [← HR.out, h0]) HF.out
        have hrl : keyL vs0 = keyF vs0 := by unfold keyL; rw [if_pos (by rw [← HR.out, h0])]
        rw [hrl] at hy3
        have HG := Lib.hid hgood
        subst h0
        clear hgood hrl HR
        go_wp2_with fail
        refine (unkey_any A3 n3 c3 (keyF vs0) _ w6 (by omega) hc3 hy3 (Nat.le_refl _)).mono ?_
        intro e w4 hpost
        obtain ⟨A4, n4, c4, rfl, hown4, hb4⟩ := unkey_key HG.out hlen8 hpost
        clear hpost
        have hb4' := hb3'.trans (hb4.mono hs3)
        have hl4 := Lib.hid hown4.len
        have hvals := hown4.vals HF.out
        go_wp2_with fail
        refine (same_any A4 n4 c4 _ a0 len0 cap0 _ vs0 w4 (by have := hl4.out; have := hlen.out; omega) hvals (HV0.out.below hb4')).mono ?_
        rintro e w5 ⟨rfl, m5, rfl⟩
        go_wp2_with fail
        go_meet
        exact below_drewN hb4' _
      · have h0' : ¬ (R : Int) = 0 := by omega
        go_wp2_with fail
        go_meet
        exact hb3'
    case rest =>
      have hs6 := hcut.size
      go_wp2_with fail
      refine (unrow_any a1 len1 cap1 bs1 _ wc (by omega) hc1 (HB1.out.below hcut) hs6).mono ?_
      intro e w7 hpost
      obtain ⟨E, vs, A7, n7, c7, rfl, hbx, hE⟩ := unrow_flat hpost
      clear hpost
      have hb7' := hcut.trans (hbx.mono hs6)
      have hs7 := hb7'.size
      clear hbx
      go_upto_if 69 with fail
      go_cut [5, 6, 12] (fun _ _ _ wx => Below w.heap.size w wx)
      case first =>
        rcases hE with ⟨rfl, hgood, hlen8, hF, hown7⟩ | rfl
        · have HG := Lib.hid hgood
          have HFE := Lib.hid hF
          have hl7 := Lib.hid hown7.len
          have hvals := hown7.vals (fun v hv => (hgood v hv).2)
          clear hgood hF
          go_wp2_with fail
          refine (row_any A7 n7 c7 vs _ w7 (by have := hl7.out; omega) hvals (Nat.le_refl _)).mono ?_
          intro e w8 hpost
          obtain ⟨A8, n8', c8, rfl, hown8, hn8', hb8⟩ := row_ok8 HG.out hlen8 hpost
          clear hpost
          have hb8' := hb7'.trans (hb8.mono hs7)
          have fe : (rowF vs == bs1) = true := by rw [HFE.out]; simp
          go_wp2_with fail
          refine (bytes_any A8 n8' c8 _ _ a1 len1 cap1 _ _ w8 hown8.byt (HB1.out.below hb8')).mono ?_
          rintro e w9 ⟨rfl, rfl⟩
          rw [fe]
          go_wp2_with fail
          go_meet
          exact hb8'
        · go_wp2_with fail
          go_meet
          exact hb7'
      case rest =>
        have hs8 := hcut.size
        go_wp2_with fail
        refine (unkey_any a1 len1 cap1 bs1 _ wc (by omega) hc1 (HB1.out.below hcut) hs8).mono ?_
        intro e w7 hpost
        obtain ⟨E, vs, A7, n7, c7, rfl, hbx, hE⟩ := unkey_flat hpost
        clear hpost
        have hb7' := hcut.trans (hbx.mono hs8)
        have hs7 := hb7'.size
        clear hbx
        rcases hE with ⟨rfl, hgood, hlen8, hF, hown7⟩ | rfl
        · have HG := Lib.hid hgood
          have HFE := Lib.hid hF
          have hl7 := Lib.hid hown7.len
          have hvals := hown7.vals (fun v hv => (hgood v hv).2)
          clear hgood hF
          go_wp2_with fail
          refine (key_any A7 n7 c7 vs _ w7 (by have := hl7.out; omega) hvals (Nat.le_refl _)).mono ?_
          intro e w8 hpost
          obtain ⟨A8, n8', c8, rfl, hown8, hn8', hb8⟩ := key_ok3 HG.out hlen8 hpost
          clear hpost
          have hb8' := hb7'.trans (hb8.mono hs7)
          have fe : (keyF vs == bs1) = true := by rw [HFE.out]; simp
          go_wp2_with fail
          refine (bytes_any A8 n8' c8 _ _ a1 len1 cap1 _ _ w8 hown8.byt (HB1.out.below hb8')).mono ?_
          rintro e w9 ⟨rfl, rfl⟩
          rw [fe]
          go_wp2_with fail
          go_ret
          exact ⟨rfl, hb8'⟩
        · go_wp2_with fail
          go_ret
          exact ⟨rfl, hb7'⟩

set_option maxRecDepth 100000 in
theorem lifted (os : Os) (started : os.Started) (H : Type) (enc : TypeId × Value → H) :
    ReturnsInHanded {} Try.checked os 9 .any (Rows.codecBackSpec.pre6 enc Try.prog Try.f9 Rows.codecBackRow.domain false) (Rows.codecBackSpec.post enc Try.prog Try.f9 false true false false) := by
  refine returnsInHanded_of_change (C := Try.checked) own started (by kernel_rfl) Try.func9
    (ChangeSpec.witness6 (enc := enc) (C := Try.checked) false ⟨#[], #[.slice none 0 0, .slice none 0 0], []⟩ 6 (by kernel_rfl) (by kernel_rfl) (by kernel_rfl) (by kernel_rfl)) ?_
  intro W base args ds gs before hval0 hW hcnd _
  have hval : ∀ (j : Nat) t v, Try.f9.params[j]? = some t → args[j]? = some v → Value.okWide Try.prog W .any base t v := hval0
  have hW' := hW
  obtain ⟨p, q, hA0, hV, rfl, hfz, hnd⟩ := hW
  have hA : DataW.TrodAll enc Try.prog W 0 (fun _ => true) true Try.f9.params.toList args.toList ds p := hA0
  rw [Try.params9] at hA hval
  obtain ⟨v0, vt0, d0, ds0, p0, q0, hargs, rfl, rfl, h0, r0⟩ := trodAll_cons hA
  obtain ⟨v1, vt1, d1, ds1, p1, q1, rfl, rfl, rfl, h1, r1⟩ := trodAll_cons r0
  obtain ⟨rfl, rfl, rfl⟩ := trodAll_nil r1
  obtain rfl : args = #[v0, v1] := by cases args; simp_all
  obtain ⟨rfl, rfl⟩ := trodVars_none hV
  obtain ⟨a0, len0, cap0, rfl⟩ := okWide_slice Try.underlying22 (hval 0 22 v0 rfl rfl)
  obtain ⟨a1, len1, cap1, rfl⟩ := okWide_slice Try.underlying25 (hval 1 25 v1 rfl rfl)
  have k0 := h0
  have lt0 : ∀ x ∈ p0, x.block < W.heap.size := by obtain ⟨m, hm⟩ := k0; exact DataW.trod_lt m _ _ _ hm
  have k1 := h1
  have lt1 : ∀ x ∈ p1, x.block < W.heap.size := by obtain ⟨m, hm⟩ := k1; exact DataW.trod_lt m _ _ _ hm
  obtain ⟨hc0, hm0, vs0, hv0⟩ : len0 ≤ cap0 ∧ len0 ≤ maxLen ∧ ∃ vs, Vals W W.heap.size a0 len0 vs := by
    obtain ⟨fuel, hf⟩ := h0
    exact vals_of hf
  obtain ⟨hc1, hm1, bs1, hb1⟩ : len1 ≤ cap1 ∧ len1 ≤ maxLen ∧ ∃ l : List UInt8, Byt W W.heap.size a1 len1 l := by
    obtain ⟨fuel, hf⟩ := h1
    rcases open_ints Try.underlying25 Try.underlying5 (by kernel_rfl) hf with ⟨hcs, _⟩ | ⟨x, l, c, zs, hcs, _, hl, hm, hz, _, hcell, hwz⟩
    · simp [Value.cells] at hcs
      obtain ⟨rfl, rfl, rfl⟩ := hcs
      exact isRow_byt (zs := []) (.inl ⟨rfl, rfl, rfl, rfl⟩)
    · simp [Value.cells] at hcs
      obtain ⟨rfl, rfl, rfl⟩ := hcs
      exact isRow_byt (zs := zs) (.inr ⟨_, rfl, hl, hm, by simpa using hz, hcell, hwz⟩)
  clear hA0 hval0
  refine (walk a0 len0 cap0 vs0 a1 len1 cap1 bs1 W hc0 hm0 hv0 hc1 hm1 hb1).mono fun e W' ⟨he, bel⟩ => ?_
  subst he
  exact ⟨_, rfl, _, _, _, [], _, [], hW', trodAll_mk1 (shut_bool Try.underlying4 _), (trodAll_cons_mk (Below.trod laidOut (by kernel_rfl) (of_decide_eq_true (by kernel_rfl)) k0 bel lt0) (trodAll_cons_mk (Below.trod laidOut (by kernel_rfl) (of_decide_eq_true (by kernel_rfl)) k1 bel lt1) trodAll_mk0)), rfl, bel.frame _, fun h => by cases h⟩

theorem over : Rows.codecBackRow.holds Try.pinned (OpenSpec.ofChange Rows.codecBackSpec) :=
  OpenClaim.holds_of_wide 9 Try.f9 rfl rfl rfl rfl rfl rfl rfl ⟨rfl, rfl, rfl, rfl, rfl⟩ rfl rfl rfl rfl rfl (by kernel_rfl) Try.func9 (by kernel_rfl)
    (of_decide_eq_true (by kernel_rfl)) (by unfold Func.isWrapper; first | (rw [if_pos (by decide +kernel)]; kernel_rfl) | (rw [if_neg (by decide +kernel)]; exact ⟨rfl, rfl⟩))
    (fun os started H enc _ => lifted os started H enc)

/-- The statement. -/
theorem proved : Rows.CodecBackSaid := over
#print axioms proved
end Go.Proofs.Ytjmpolabpgmjpaa.codecBack
