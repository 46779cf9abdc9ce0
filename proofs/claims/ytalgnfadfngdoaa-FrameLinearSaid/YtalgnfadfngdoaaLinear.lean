/-
  Proved: for every three byte slices FrameLinear returns true and leaves its arguments as they were (the sum of three texts of one length, laid over each other bit by bit, is their sums laid over each other). No condition.
-/
import Derived.Test.YtalgnfadfngdoaaRows
import Derived.Test.YtalgnfadfngdoaaOpen
import Derived.Test.YtalgnfadfngdoaaLin
import Derived.WalkKit
import Derived.ProofKit
import Derived.OpenShut
import Derived.ShutString
import Derived.ChangeOld
import Derived.Below
namespace Go.Proofs.Ytalgnfadfngdoaa.frameLinear
open Go.ChangeShapes Go.WideShapes Go.ChangeAt Go.RowKit
open Go.ChangeMaps (open_string shut_string)
set_option linter.unusedVariables false

theorem own : ownKnob Try.prog.godebug = none := by kernel_rfl
theorem laidOut : laidOutB Try.prog = true := by kernel_rfl

attribute [local go_sem] xor8 xor32

/-- Nothing that was there has turned. -/
def KeepB (w X : World) : Prop := Below w.heap.size w X
theorem sum_keep (A : Option Addr) (n c : Nat) (l : List UInt8) (w : World) (hn : n ≤ 1099511627776) (hr : Byt w w.heap.size A n l) (S : BitVec 32) (hS : sumF l = S) :
    ∀ X, KeepB w X → Calls Try.prog 12 #[.slice A n c] X fun e w' => e = .returned (.int .u32 (n32 S)) ∧ KeepB w w' := by
  intro X hX
  subst hS
  refine (sum_any A n c l w.heap.size X hn (hr.below hX) hX.size).mono ?_
  rintro e w' ⟨rfl, hb⟩
  exact ⟨rfl, Below.trans hX (hb.mono hX.size)⟩

set_option maxHeartbeats 1600000 in
theorem walk (a0 : Option Addr) (len0 cap0 : Nat) (z0 : List Int) (a1 : Option Addr) (len1 cap1 : Nat) (z1 : List Int) (a2 : Option Addr) (len2 cap2 : Nat) (z2 : List Int) (w : World) (w0 : IsRow .u8 w a0 len0 cap0 z0) (w1 : IsRow .u8 w a1 len1 cap1 z1) (w2 : IsRow .u8 w a2 len2 cap2 z2) :
    Calls Try.prog 4 #[.slice a0 len0 cap0, .slice a1 len1 cap1, .slice a2 len2 cap2] w fun e w' => e = .returned (.bool true) ∧ Below w.heap.size w w' := by
  obtain ⟨hc0, hm0, l0, hr0⟩ := isRow_byt w0
  obtain ⟨hc1, hm1, l1, hr1⟩ := isRow_byt w1
  obtain ⟨hc2, hm2, l2, hr2⟩ := isRow_byt w2
  clear w0 w1 w2
  obtain ⟨N, hN⟩ : ∃ N : Nat, N = min (min (min len0 len1) len2) 1000 := ⟨_, rfl⟩
  have hmin : ∀ w : World, (Builtin.min_ #[3, 3, 3, 3] 3 #[.int .i64 (len0 : Int), .int .i64 (len1 : Int), .int .i64 (len2 : Int), .int .i64 1000]).run Try.prog w = .ok (.int .i64 (N : Int)) w := by
    intro w
    rw [hN]
    exact run_min4 _ _ len0 len1 len2 1000 w
  have k0 : N ≤ len0 := by omega
  have k1 : N ≤ len1 := by omega
  have k2 : N ≤ len2 := by omega
  have k3 : N ≤ 1000 := by omega
  clear hN hm0 hm1 hm2
  go_enter Try.func4, Try.ntmps4
  go_wp2_with fail
  refine (known_any w).mono ?_
  rintro e w3 ⟨rfl, hb3⟩
  have hs3 := hb3.size
  go_wp2_with (at_make; refine wpList_make_byt bty _ rfl (.tmp 19) (.tmp 19) rfl w3.heap.size .i64 .i64 _ _ N rfl rfl rfl rfl (by omega) (Nat.le_refl _) ?_; intro w4 hown4 hb4)
  have hs4 := hb4.size
  generalize w3.heap.size = g at *
  have hb4' := hb3.trans (hb4.mono hs3)
  clear hmin hb3 hb4
  go_loopw [9] (fun i wr => ∃ k : Nat, k ≤ N ∧ i = .int .i64 k ∧ ∃ D : List UInt8, Own wr g 5 (some ⟨g, 0, none⟩) N N D ∧ Below w.heap.size w wr ∧
      ∀ (j : Nat) (x y z : UInt8), j < k → l0[j]? = some x → l1[j]? = some y → l2[j]? = some z → D[j]? = some (x ^^^ y ^^^ z)) (fun i _ => N - (intOf i).toNat)
  case atStart => exact ⟨0, Nat.zero_le _, rfl, _, hown4, hb4', fun j x y z hj => absurd hj (by omega)⟩
  case round =>
    obtain ⟨k, hk, rfl, D, hown, hbr, hD⟩ := hrel
    by_cases hlt : k < N
    · obtain ⟨b0, off0, x, rfl, hx0, hxl, hxc⟩ := (hr0.below hbr).at_ (show k < len0 by omega)
      obtain ⟨b1, off1, y, rfl, hy0, hyl, hyc⟩ := (hr1.below hbr).at_ (show k < len1 by omega)
      obtain ⟨b2, off2, z, rfl, hz0, hzl, hzc⟩ := (hr2.below hbr).at_ (show k < len2 by omega)
      have hdc : wr.cell? ⟨g, k, none⟩ = some (u8v (D[k]?.getD 0)) := by
        rw [World.ownsRow.cellAt hown k (by omega)]
        have := hown.len
        rw [List.getElem?_map, List.getElem?_eq_getElem (by omega)]
        rfl
      have hdf := World.ownsRow.frozenAt hown k
      have p0 : (k : Int) < (len0 : Int) := by omega
      have p1 : (k : Int) < (len1 : Int) := by omega
      have p2 : (k : Int) < (len2 : Int) := by omega
      have p3 : (k : Int) < (N : Int) := by omega
      have HD := Lib.hid hD
      have HX := Lib.hid hxl
      have HY := Lib.hid hyl
      have HZ := Lib.hid hzl
      clear hD hxl hyl hzl
      go_wp2_with fail
      go_region
      go_wp2_with fail
      have hown2 := (hown.drew).stored k (x ^^^ y ^^^ z)
      go_roundw
      case rel =>
        refine ⟨k + 1, by omega, by go_num, D.set k (x ^^^ y ^^^ z), hown2, (hbr.drew).setCell hs3 _, ?_⟩
        intro j x' y' z' hj h1 h2 h3
        rw [List.getElem?_set]
        by_cases e : k = j
        · subst e
          have e1 := HX.out.symm.trans h1
          have e2 := HY.out.symm.trans h2
          have e3 := HZ.out.symm.trans h3
          cases e1; cases e2; cases e3
          have := hown.len
          simp [show k < D.length by omega]
        · rw [if_neg e]
          exact HD.out j x' y' z' (by omega) h1 h2 h3
      case measure => simp [intOf]; omega
    · obtain rfl : k = N := by omega
      have hsr := hbr.size
      have r0 := ((hr0.below hbr).mid (i := 0) (j := k) (A' := a0) (by omega) k0 (by rintro _ b off rfl; rfl)).more hsr
      have r1 := ((hr1.below hbr).mid (i := 0) (j := k) (A' := a1) (by omega) k1 (by rintro _ b off rfl; rfl)).more hsr
      have r2 := ((hr2.below hbr).mid (i := 0) (j := k) (A' := a2) (by omega) k2 (by rintro _ b off rfl; rfl)).more hsr
      simp only [Nat.sub_zero, List.drop_zero] at r0 r1 r2
      have hlin := sumF_lin D (l0.take k) (l1.take k) (l2.take k) (by rw [List.length_take, hown.len, hr0.len]; omega) (by rw [List.length_take, hown.len, hr1.len]; omega) (by rw [List.length_take, hown.len, hr2.len]; omega) (by
        intro j x y z h1 h2 h3
        have hj : j < k := by
          rcases Nat.lt_or_ge j k with h | h
          · exact h
          · rw [List.getElem?_eq_none (by rw [List.length_take]; omega)] at h1; cases h1
        rw [List.getElem?_take, if_pos hj] at h1 h2 h3
        exact hD j x y z hj h1 h2 h3)
      have c0 := Lib.hid (sum_keep a0 k cap0 _ wr (by omega) r0 _ rfl)
      have c1 := Lib.hid (sum_keep a1 k cap1 _ wr (by omega) r1 _ rfl)
      have c2 := Lib.hid (sum_keep a2 k cap2 _ wr (by omega) r2 _ rfl)
      have c3 := Lib.hid (sum_keep (some ⟨g, 0, none⟩) k k _ wr (by omega) hown.byt _ rfl)
      have hkeep : KeepB wr wr.drew := (Below.refl _ _).drew
      have q0 : (k : Int) ≤ (cap0 : Int) := by omega
      have q1 : (k : Int) ≤ (cap1 : Int) := by omega
      have q2 : (k : Int) ≤ (cap2 : Int) := by omega
      generalize sumF D = S3 at *
      generalize sumF (l0.take k) = S0 at *
      generalize sumF (l1.take k) = S1 at *
      generalize sumF (l2.take k) = S2 at *
      have HLIN := Lib.hid hlin
      clear hlin r0 r1 r2 hD hown hr0 hr1 hr2
      go_wp2_with fail
      go_region_with (first
        | (go_at_call_of 12 (Value.slice a0 k cap0); refine (c0.out _ ?_).mono ?_; assumption; rintro e w5 ⟨rfl, hk5⟩)
        | (go_at_call_of 12 (Value.slice a1 k cap1); refine (c1.out _ ?_).mono ?_; assumption; rintro e w6 ⟨rfl, hk6⟩)
        | (go_at_call_of 12 (Value.slice a2 k cap2); refine (c2.out _ ?_).mono ?_; assumption; rintro e w7 ⟨rfl, hk7⟩)
        | (go_at_call_of 12 (Value.slice (some (Addr.mk g 0 none)) k k); refine (c3.out _ ?_).mono ?_; assumption; rintro e w8 ⟨rfl, hk8⟩))
      go_wp2_with fail
      go_ret
      refine ⟨congrArg Ending.returned (congrArg Value.bool ?_), hbr.trans (Below.mono (by assumption : KeepB wr _) hsr)⟩
      show (n32 S3 == n32 (S0 ^^^ S1 ^^^ S2)) = true
      rw [HLIN.out]
      simp

/-! The row's step, written by the kit's program. -/
set_option maxRecDepth 100000 in
theorem lifted (os : Os) (started : os.Started) (H : Type) (enc : TypeId × Value → H) :
    ReturnsInHanded {} Try.checked os 4 .any (Rows.frameLinearSpec.pre6 enc Try.prog Try.f4 Rows.frameLinearRow.domain false) (Rows.frameLinearSpec.post enc Try.prog Try.f4 false true false false) := by
  refine returnsInHanded_of_change (C := Try.checked) own started (by kernel_rfl) Try.func4
    (ChangeSpec.witness6 (enc := enc) (C := Try.checked) false ⟨#[], #[.slice none 0 0, .slice none 0 0, .slice none 0 0], []⟩ 8 (by kernel_rfl) (by kernel_rfl) (by kernel_rfl) (by kernel_rfl)) ?_
  intro W base args ds gs before hval0 hW hcnd _
  have hval : ∀ (j : Nat) t v, Try.f4.params[j]? = some t → args[j]? = some v → Value.okWide Try.prog W .any base t v := hval0
  have hW' := hW
  obtain ⟨p, q, hA0, hV, rfl, hfz, hnd⟩ := hW
  have hA : DataW.TrodAll enc Try.prog W 0 (fun _ => true) true Try.f4.params.toList args.toList ds p := hA0
  rw [Try.params4] at hA hval
  obtain ⟨v0, vs0, d0, ds0, p0, q0, hargs, rfl, rfl, h0, r0⟩ := trodAll_cons hA
  obtain ⟨v1, vs1, d1, ds1, p1, q1, rfl, rfl, rfl, h1, r1⟩ := trodAll_cons r0
  obtain ⟨v2, vs2, d2, ds2, p2, q2, rfl, rfl, rfl, h2, r2⟩ := trodAll_cons r1
  obtain ⟨rfl, rfl, rfl⟩ := trodAll_nil r2
  obtain rfl : args = #[v0, v1, v2] := by cases args; simp_all
  obtain ⟨rfl, rfl⟩ := trodVars_none hV
  obtain ⟨a0, len0, cap0, rfl⟩ := okWide_slice Try.underlying23 (hval 0 23 v0 rfl rfl)
  have k0 := h0
  have lt0 : ∀ x ∈ p0, x.block < W.heap.size := by obtain ⟨m, hm⟩ := k0; exact DataW.trod_lt m _ _ _ hm
  obtain ⟨z0, w0⟩ : ∃ zs, IsRow .u8 W a0 len0 cap0 zs := by
    obtain ⟨fuel, hf⟩ := h0
    rcases open_ints Try.underlying23 Try.underlying5 (by kernel_rfl) hf with ⟨hcs, _⟩ | ⟨x, l, c, zs, hcs, _, hl, hm, hz, _, hcell, hwz⟩
    · simp [Value.cells] at hcs
      obtain ⟨rfl, rfl, rfl⟩ := hcs
      exact ⟨[], .inl ⟨rfl, rfl, rfl, rfl⟩⟩
    · simp [Value.cells] at hcs
      obtain ⟨rfl, rfl, rfl⟩ := hcs
      exact ⟨zs, .inr ⟨_, rfl, hl, hm, by simpa using hz, hcell, hwz⟩⟩
  obtain ⟨a1, len1, cap1, rfl⟩ := okWide_slice Try.underlying23 (hval 1 23 v1 rfl rfl)
  have k1 := h1
  have lt1 : ∀ x ∈ p1, x.block < W.heap.size := by obtain ⟨m, hm⟩ := k1; exact DataW.trod_lt m _ _ _ hm
  obtain ⟨z1, w1⟩ : ∃ zs, IsRow .u8 W a1 len1 cap1 zs := by
    obtain ⟨fuel, hf⟩ := h1
    rcases open_ints Try.underlying23 Try.underlying5 (by kernel_rfl) hf with ⟨hcs, _⟩ | ⟨x, l, c, zs, hcs, _, hl, hm, hz, _, hcell, hwz⟩
    · simp [Value.cells] at hcs
      obtain ⟨rfl, rfl, rfl⟩ := hcs
      exact ⟨[], .inl ⟨rfl, rfl, rfl, rfl⟩⟩
    · simp [Value.cells] at hcs
      obtain ⟨rfl, rfl, rfl⟩ := hcs
      exact ⟨zs, .inr ⟨_, rfl, hl, hm, by simpa using hz, hcell, hwz⟩⟩
  obtain ⟨a2, len2, cap2, rfl⟩ := okWide_slice Try.underlying23 (hval 2 23 v2 rfl rfl)
  have k2 := h2
  have lt2 : ∀ x ∈ p2, x.block < W.heap.size := by obtain ⟨m, hm⟩ := k2; exact DataW.trod_lt m _ _ _ hm
  obtain ⟨z2, w2⟩ : ∃ zs, IsRow .u8 W a2 len2 cap2 zs := by
    obtain ⟨fuel, hf⟩ := h2
    rcases open_ints Try.underlying23 Try.underlying5 (by kernel_rfl) hf with ⟨hcs, _⟩ | ⟨x, l, c, zs, hcs, _, hl, hm, hz, _, hcell, hwz⟩
    · simp [Value.cells] at hcs
      obtain ⟨rfl, rfl, rfl⟩ := hcs
      exact ⟨[], .inl ⟨rfl, rfl, rfl, rfl⟩⟩
    · simp [Value.cells] at hcs
      obtain ⟨rfl, rfl, rfl⟩ := hcs
      exact ⟨zs, .inr ⟨_, rfl, hl, hm, by simpa using hz, hcell, hwz⟩⟩
  clear hA0 hval0
  refine (walk a0 len0 cap0 z0 a1 len1 cap1 z1 a2 len2 cap2 z2 W w0 w1 w2).mono fun e W' ⟨he, bel⟩ => ?_
  subst he
  exact ⟨_, rfl, _, _, _, [], _, [], hW', trodAll_mk1 (shut_bool Try.underlying4 _), (trodAll_cons_mk (Below.trod laidOut (by kernel_rfl) (of_decide_eq_true (by kernel_rfl)) k0 bel lt0) (trodAll_cons_mk (Below.trod laidOut (by kernel_rfl) (of_decide_eq_true (by kernel_rfl)) k1 bel lt1) (trodAll_cons_mk (Below.trod laidOut (by kernel_rfl) (of_decide_eq_true (by kernel_rfl)) k2 bel lt2) trodAll_mk0))), rfl, bel.frame _, fun h => by cases h⟩

theorem over : Rows.frameLinearRow.holds Try.pinned (OpenSpec.ofChange Rows.frameLinearSpec) :=
  OpenClaim.holds_of_wide 4 Try.f4 rfl rfl rfl rfl rfl rfl rfl ⟨rfl, rfl, rfl, rfl, rfl⟩ rfl rfl rfl rfl rfl (by kernel_rfl) Try.func4 (by kernel_rfl)
    (of_decide_eq_true (by kernel_rfl)) (by unfold Func.isWrapper; first | (rw [if_pos (by decide +kernel)]; kernel_rfl) | (rw [if_neg (by decide +kernel)]; exact ⟨rfl, rfl⟩))
    (fun os started H enc _ => lifted os started H enc)

/-- The statement. -/
theorem proved : Rows.FrameLinearSaid := over
#print axioms proved
end Go.Proofs.Ytalgnfadfngdoaa.frameLinear
