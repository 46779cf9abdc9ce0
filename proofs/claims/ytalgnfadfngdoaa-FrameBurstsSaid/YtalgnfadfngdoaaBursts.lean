/-
  Proved: for every bytes b, every place at and every number turn FrameBursts returns true and leaves its arguments as they were (turned bits within 32 neighbouring ones of payload and sum are always told). No condition.
-/
import Derived.Test.YtalgnfadfngdoaaRows
import Derived.Test.YtalgnfadfngdoaaOpen
import Derived.Test.YtalgnfadfngdoaaLin
import Derived.Test.YtalgnfadfngdoaaBurst
import Derived.WalkKit
import Derived.ProofKit
import Derived.OpenShut
import Derived.ShutString
import Derived.ChangeOld
import Derived.Below
namespace Go.Proofs.Ytalgnfadfngdoaa.frameBursts
open Go.ChangeShapes Go.WideShapes Go.ChangeAt Go.RowKit
open Go.ChangeMaps (open_string shut_string)
set_option linter.unusedVariables false

theorem own : ownKnob Try.prog.godebug = none := by kernel_rfl
theorem laidOut : laidOutB Try.prog = true := by kernel_rfl

/-- The first bit's place, as the law reckons it. -/
theorem first_of (x : Int) (Q : Nat) (hQ : 0 < Q) : ∃ (R : Int) (f : Nat), x.tmod (Q : Int) = R ∧ -(Q : Int) < R ∧ R < (Q : Int) ∧ (R + (Q : Int)) % (Q : Int) = (f : Int) ∧ f < Q := by
  have h1 : (x.tmod (Q : Int)).natAbs < Q := by
    rw [Int.natAbs_tmod]
    exact Nat.mod_lt _ (by simpa using hQ)
  have h2 : 0 ≤ (x.tmod (Q : Int) + (Q : Int)) % (Q : Int) := Int.emod_nonneg _ (by omega)
  have h3 : (x.tmod (Q : Int) + (Q : Int)) % (Q : Int) < (Q : Int) := Int.emod_lt_of_pos _ (by omega)
  exact ⟨_, ((x.tmod (Q : Int) + (Q : Int)) % (Q : Int)).toNat, rfl, by omega, by omega, by omega, by omega⟩

theorem bit_at (t : BitVec 32) (i : Nat) : ((n32 t / (2 : Int) ^ i).tmod 2 == 1) = t.getLsbD i := by
  have h : n32 t / (2 : Int) ^ i = ((t.toNat / 2 ^ i : Nat) : Int) := by
    unfold n32
    rw [Int.natCast_ediv, Int.natCast_pow]
    rfl
  rw [h, BitVec.getLsbD, Nat.testBit_eq_decide_div_mod_eq]
  generalize t.toNat / 2 ^ i = a
  rw [Int.tmod_eq_emod_of_nonneg (by omega)]
  have := Nat.mod_two_eq_zero_or_one a
  rcases this with e | e
  · have : (a : Int) % 2 = 0 := by omega
    rw [this, e]; rfl
  · have : (a : Int) % 2 = 1 := by omega
    rw [this, e]; rfl

theorem bit8_num (j : Nat) (hj : j < 8) : (2 : Int) ^ j % 256 = n8 (bit8 j) := by
  have h : ∀ j : Fin 8, (2 : Int) ^ j.val % 256 = n8 (bit8 j.val) := by decide
  exact h ⟨j, hj⟩

set_option maxHeartbeats 1600000 in
theorem walk (a0 : Option Addr) (len0 cap0 : Nat) (z0 : List Int) (a1 : Int) (a2 : Int) (w : World) (w0 : IsRow .u8 w a0 len0 cap0 z0) (w1 : (Lit.int .i64 a1).wf = true) (w2 : (Lit.int .u32 a2).wf = true) :
    Calls Try.prog 7 #[.slice a0 len0 cap0, .int .i64 a1, .int .u32 a2] w fun e w' => e = .returned (.bool true) ∧ Below w.heap.size w w' := by
  obtain ⟨hc, hm, l, hr⟩ := isRow_byt w0
  obtain ⟨t, ht⟩ : ∃ t : BitVec 32, a2 = n32 t := by
    have h1 := bounds_u32 w2
    exact ⟨BitVec.ofNat 32 a2.toNat, (n32_lit a2 h1.1 (by have := h1.2; omega)).symm⟩
  subst ht
  clear w0 w1 w2
  unfold maxLen at hm
  go_enter Try.func7, Try.ntmps7
  go_wp2_with fail
  refine (known_any w).mono ?_
  rintro e w2 ⟨rfl, hb2⟩
  have hs2 := hb2.size
  by_cases h5 : 3000 < len0
  · go_wp2_with fail
    go_ret
    exact ⟨rfl, hb2⟩
  · by_cases h6 : n32 t = 0
    · have h6b : (n32 t == 0) = true := by rw [h6]; rfl
      have H6 := Lib.hid h6
      clear h6
      go_wp2_with fail
      go_ret
      exact ⟨rfl, hb2⟩
    · have h6b : (n32 t == 0) = false := by rw [beq_eq_false_iff_ne]; exact h6
      clear hm h6
      have hlen : l.length ≤ 65536 := by have := hr.len; omega
      have HL := Lib.hid hr.len
      have hr2 := hr.below hb2
      obtain ⟨Q, hQ⟩ : ∃ Q : Nat, Q = 8 * len0 + 32 := ⟨_, rfl⟩
      obtain ⟨R, f, e2, R1, R2, e3, hf⟩ := first_of a1 Q (by omega)
      have e1 : 8 * ((len0 : Int) + 8 - 4) = (Q : Int) := by omega
      have HQ := Lib.hid hQ
      have Q1 : (Q : Int) ≤ 24032 := by omega
      have Q2 : (32 : Int) ≤ (Q : Int) := by omega
      have f1 : (f : Int) < (Q : Int) := by omega
      clear hQ
      go_wp2_with fail
      refine (wrap_yes a0 len0 cap0 l _ w2 (by omega) hr2 hs2).mono ?_
      rintro e w3 ⟨A3, c3, rfl, hown3, hb3⟩
      have hs3 := hb3.size
      have hb3' := hb2.trans (hb3.mono hs2)
      obtain ⟨g, cap, hv, hgb, hgl⟩ := World.ownsRow.form hown3 (by omega)
      have hA : A3 = some ⟨g, 0, none⟩ := by injection hv
      subst hA
      clear hv hr2 hr hb2 hb3
      go_wp2_with fail
      rw [e3]
      have hW := wrapF_len l
      have HW := Lib.hid hW
      clear e1 e2 e3 R1 R2 hW h6b
      generalize hWF : wrapF l = W at *
      have HWF := Lib.hid hWF
      clear hWF
      go_loopw [11, 12] (fun s iv wr => ∃ i : Nat, i ≤ 32 ∧ f + i ≤ Q ∧ iv = .int .i64 i ∧ s = .bool (some_ t i) ∧
          Own wr w2.heap.size 5 (some ⟨g, 0, none⟩) (len0 + 8) c3 (flipsTo W t (32 + f) i) ∧ Below w.heap.size w wr) (fun _ iv _ => 32 - (intOf iv).toNat)
      case atStart => exact ⟨0, by omega, by omega, rfl, rfl, hown3, hb3'⟩
      case round =>
        obtain ⟨i, hi, hfi, rfl, rfl, hown, hbr⟩ := hrel
        by_cases hlt : i < 32 ∧ f + i < Q
        · obtain ⟨hi32, hfQ⟩ := hlt
          have p1 : (i : Int) < 32 := by omega
          have p2 : (f : Int) + (i : Int) < (Q : Int) := by omega
          have hb := bit_at t i
          cases hti : t.getLsbD i
          · rw [hti] at hb
            have HS := Lib.hid (some_clear t i hti)
            have HF := Lib.hid (show flipsTo W t (32 + f) (i + 1) = flipsTo W t (32 + f) i from by simp only [flipsTo, hti]; rfl)
            clear hti
            go_wp2_with fail
            go_roundw
            case rel => exact ⟨i + 1, by omega, by omega, by go_num, by rw [HS.out], by rw [HF.out]; exact hown, hbr⟩
            case measure => simp [intOf]; omega
          · rw [hti] at hb
            have HS := Lib.hid (some_set t i hi32 hti)
            obtain ⟨P, hP⟩ : ∃ P : Nat, P = 32 + f + i := ⟨_, rfl⟩
            have e4 : 32 + (f : Int) + (i : Int) = (P : Int) := by omega
            have hlw : (flipsTo W t (32 + f) i).length = len0 + 8 := by rw [flipsTo_len, HW.out, HL.out]
            have hPl : P / 8 < len0 + 8 := by have := HQ.out; omega
            have p5 : (P : Int) / 8 < (len0 : Int) + 8 := by omega
            have HF := Lib.hid (show flipsTo W t (32 + f) (i + 1) = flipAt (flipsTo W t (32 + f) i) P from by simp only [flipsTo, hti, hP]; rfl)
            clear hti hP
            obtain ⟨c, hcc⟩ : ∃ c, c = (flipsTo W t (32 + f) i)[P / 8]?.getD 0 := ⟨_, rfl⟩
            have hdc : wr.cell? ⟨g, P / 8, none⟩ = some (.int .u8 (n8 c)) := by
              rw [World.ownsRow.cellAt hown (P / 8) (by omega), List.getElem?_map, hcc, List.getElem?_eq_getElem (by omega)]
              rfl
            have hdf := World.ownsRow.frozenAt hown (P / 8)
            have HC := Lib.hid hcc
            clear hcc hlw
            go_wp2_with fail
            have hb8 := Lib.hid (bit8_num (P % 8) (Nat.mod_lt _ (by omega)))
            go_region
            go_wp2_with fail
            rw [hb8.out, xor8]
            have hown2 := hown.stored (P / 8) (c ^^^ bit8 (P % 8))
            go_roundw
            case rel =>
              refine ⟨i + 1, by omega, by omega, by go_num, by rw [HS.out], ?_, (hbr.setCell (by simp; omega) _).drew⟩
              rw [HF.out]
              unfold flipAt
              rw [← HC.out]
              exact hown2
            case measure => simp [intOf]; omega
        · have hexit : ∀ (S : Bool) (k : Nat), some_ t i = S → k = (if S then 22 else 0) → uwErr (flipsTo W t (32 + f) i) = k := by
            intro S k hS hk
            have := uwErr_flips l hlen t (32 + f) i (by omega) hi (by have := HQ.out; have := HL.out; omega)
            rw [HWF.out, hS] at this
            rw [this, hk]
          have hex : uwErr (flipsTo W t (32 + f) i) = if some_ t i then 22 else 0 := hexit _ _ rfl rfl
          have hcap := hown.cap
          have HU := Lib.hid (unwrap_any (some ⟨g, 0, none⟩) (len0 + 8) c3 _ _ wr (by omega) hcap hown.byt (Nat.le_refl _))
          clear hexit hown hown3 hb3'
          by_cases hi32 : i < 32
          · have p2 : ¬ ((f : Int) + (i : Int) < (Q : Int)) := by omega
            cases hS : some_ t i
            · rw [hS] at hex
              have HX := Lib.hid hex
              clear hex hS
              go_wp2_with fail
              refine HU.out.mono ?_
              rintro e w5 ⟨A5, c5, rfl, _, hb5⟩
              rw [HX.out]
              go_wp2_with fail
              go_ret
              exact ⟨rfl, hbr.trans (hb5.mono hbr.size)⟩
            · rw [hS] at hex
              have HX := Lib.hid hex
              clear hex hS
              go_wp2_with fail
              refine HU.out.mono ?_
              rintro e w5 ⟨A5, c5, rfl, _, hb5⟩
              rw [HX.out]
              go_wp2_with fail
              go_ret
              exact ⟨rfl, hbr.trans (hb5.mono hbr.size)⟩
          · have p1 : ¬ ((i : Int) < 32) := by omega
            cases hS : some_ t i
            · rw [hS] at hex
              have HX := Lib.hid hex
              clear hex hS
              go_wp2_with fail
              refine HU.out.mono ?_
              rintro e w5 ⟨A5, c5, rfl, _, hb5⟩
              rw [HX.out]
              go_wp2_with fail
              go_ret
              exact ⟨rfl, hbr.trans (hb5.mono hbr.size)⟩
            · rw [hS] at hex
              have HX := Lib.hid hex
              clear hex hS
              go_wp2_with fail
              refine HU.out.mono ?_
              rintro e w5 ⟨A5, c5, rfl, _, hb5⟩
              rw [HX.out]
              go_wp2_with fail
              go_ret
              exact ⟨rfl, hbr.trans (hb5.mono hbr.size)⟩

/-! The row's step, written by the kit's program. -/
set_option maxRecDepth 100000 in
theorem lifted (os : Os) (started : os.Started) (H : Type) (enc : TypeId × Value → H) :
    ReturnsInHanded {} Try.checked os 7 .any (Rows.frameBurstsSpec.pre6 enc Try.prog Try.f7 Rows.frameBurstsRow.domain false) (Rows.frameBurstsSpec.post enc Try.prog Try.f7 false true false false) := by
  refine returnsInHanded_of_change (C := Try.checked) own started (by kernel_rfl) Try.func7
    (ChangeSpec.witness6 (enc := enc) (C := Try.checked) false ⟨#[], #[.slice none 0 0, .int .i64 0, .int .u32 0], []⟩ 8 (by kernel_rfl) (by kernel_rfl) (by kernel_rfl) (by kernel_rfl)) ?_
  intro W base args ds gs before hval0 hW hcnd _
  have hval : ∀ (j : Nat) t v, Try.f7.params[j]? = some t → args[j]? = some v → Value.okWide Try.prog W .any base t v := hval0
  have hW' := hW
  obtain ⟨p, q, hA0, hV, rfl, hfz, hnd⟩ := hW
  have hA : DataW.TrodAll enc Try.prog W 0 (fun _ => true) true Try.f7.params.toList args.toList ds p := hA0
  rw [Try.params7] at hA hval
  obtain ⟨v0, vs0, d0, ds0, p0, q0, hargs, rfl, rfl, h0, r0⟩ := trodAll_cons hA
  obtain ⟨v1, vs1, d1, ds1, p1, q1, rfl, rfl, rfl, h1, r1⟩ := trodAll_cons r0
  obtain ⟨v2, vs2, d2, ds2, p2, q2, rfl, rfl, rfl, h2, r2⟩ := trodAll_cons r1
  obtain ⟨rfl, rfl, rfl⟩ := trodAll_nil r2
  obtain rfl : args = #[v0, v1, v2] := by cases args; simp_all
  obtain ⟨rfl, rfl⟩ := trodVars_none hV
  obtain ⟨a0, len0, cap0, rfl⟩ := okWide_slice Try.underlying23 (hval 0 23 v0 rfl rfl)
  have k0 := h0
  have lt0 : ∀ x ∈ p0, x.block < W.heap.size := by obtain ⟨m, hm⟩ := k0; exact DataW.trod_lt m _ _ _ hm
  obtain ⟨z0, w0⟩ : ∃ zs, IsRow .u8 W a0 len0 cap0 zs := by
    obtain ⟨fuel, hf⟩ := h0
    rcases open_ints Try.underlying23 Try.underlying5 (by kernel_rfl) hf with ⟨hcs, _⟩ | ⟨x, l, c, zs, hcs, _, hl, hm, hz, _, hcell, hwz⟩
    · simp [Value.cells] at hcs
      obtain ⟨rfl, rfl, rfl⟩ := hcs
      exact ⟨[], .inl ⟨rfl, rfl, rfl, rfl⟩⟩
    · simp [Value.cells] at hcs
      obtain ⟨rfl, rfl, rfl⟩ := hcs
      exact ⟨zs, .inr ⟨_, rfl, hl, hm, by simpa using hz, hcell, hwz⟩⟩
  obtain ⟨a1, rfl, rfl, rfl, w1⟩ := open_int Try.underlying3 (hval 1 3 v1 rfl rfl) h1
  obtain ⟨a2, rfl, rfl, rfl, w2⟩ := open_int Try.underlying22 (hval 2 22 v2 rfl rfl) h2
  clear hA0 hval0
  refine (walk a0 len0 cap0 z0 a1 a2 W w0 w1 w2).mono fun e W' ⟨he, bel⟩ => ?_
  subst he
  exact ⟨_, rfl, _, _, _, [], _, [], hW', trodAll_mk1 (shut_bool Try.underlying4 _), (trodAll_cons_mk (Below.trod laidOut (by kernel_rfl) (of_decide_eq_true (by kernel_rfl)) k0 bel lt0) (trodAll_cons_mk (shut_int Try.underlying3 w1) (trodAll_cons_mk (shut_int Try.underlying22 w2) trodAll_mk0))), rfl, bel.frame _, fun h => by cases h⟩

theorem over : Rows.frameBurstsRow.holds Try.pinned (OpenSpec.ofChange Rows.frameBurstsSpec) :=
  OpenClaim.holds_of_wide 7 Try.f7 rfl rfl rfl rfl rfl rfl rfl ⟨rfl, rfl, rfl, rfl, rfl⟩ rfl rfl rfl rfl rfl (by kernel_rfl) Try.func7 (by kernel_rfl)
    (of_decide_eq_true (by kernel_rfl)) (by unfold Func.isWrapper; first | (rw [if_pos (by decide +kernel)]; kernel_rfl) | (rw [if_neg (by decide +kernel)]; exact ⟨rfl, rfl⟩))
    (fun os started H enc _ => lifted os started H enc)

/-- The statement. -/
theorem proved : Rows.FrameBurstsSaid := over
#print axioms proved
end Go.Proofs.Ytalgnfadfngdoaa.frameBursts
