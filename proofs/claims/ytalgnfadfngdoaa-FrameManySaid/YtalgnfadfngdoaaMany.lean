/-
  Proved: for every list of byte slices FrameMany returns true and leaves its argument as it was (frames one behind the other are read one behind the other, and nothing is left). No condition.
-/
import Derived.Test.YtalgnfadfngdoaaRows
import Derived.Test.YtalgnfadfngdoaaRowsOf
import Derived.WalkKit
import Derived.ProofKit
import Derived.OpenShut
import Derived.ShutString
import Derived.ChangeOld
import Derived.Below
import Derived.LoopTactic
namespace Go.Proofs.Ytalgnfadfngdoaa.frameMany
open Go.ChangeShapes Go.WideShapes Go.ChangeAt Go.RowKit
open Go.ChangeMaps (open_string shut_string)
set_option linter.unusedVariables false

theorem own : ownKnob Try.prog.godebug = none := by kernel_rfl
theorem laidOut : laidOutB Try.prog = true := by kernel_rfl

set_option maxHeartbeats 1600000 in
theorem walk (a0 : Option Addr) (n cap0 : Nat) (A' : Nat → Option Addr) (L C : Nat → Nat) (D : Nat → List UInt8) (w : World) (hcap : n ≤ cap0) (hmax : n ≤ maxLen) (hrows : IsRows w w.heap.size a0 n A' L C D) :
    Calls Try.prog 8 #[.slice a0 n cap0] w fun e w' => e = .returned (.bool true) ∧ Below w.heap.size w w' := by
  unfold maxLen at hmax
  go_enter Try.func8, Try.ntmps8
  go_wp2_with fail
  refine (known_any w).mono ?_
  rintro e w2 ⟨rfl, hb2⟩
  have hs2 := hb2.size
  by_cases h5 : 40 < n
  · go_wp2_with fail
    go_ret
    exact ⟨rfl, hb2⟩
  · go_wp2_with fail
    clear hmax
    go_loopw [3, 4] (fun av iv wr => ∃ i : Nat, i ≤ n ∧ iv = .int .i64 i ∧ ∃ A N c, av = .slice A N c ∧ Own wr w2.heap.size 5 A N c (framesFrom D 0 i) ∧ N ≤ i * 308 ∧ Below w.heap.size w wr ∧ w2.heap.size ≤ wr.heap.size ∧ ∀ r, r < i → L r ≤ 300)
      (fun _ iv _ => n - (intOf iv).toNat)
    case atStart => exact ⟨0, by omega, rfl, none, 0, 0, rfl, Own.nil_ _ _ _, by omega, hb2, Nat.le_refl _, fun r hr => absurd hr (by omega)⟩
    case round =>
      obtain ⟨i, hi, rfl, A, N, c, rfl, hown, hN, hbr, hsr, hL⟩ := hrel
      by_cases hlt : i < n
      · have hrr := hrows.below hbr
        obtain ⟨b, off, rfl, hbB, hcell⟩ := hrr.1 (by omega)
        have hci := hcell i hlt
        obtain ⟨hLC, hLm, hri⟩ := hrr.2 i hlt
        have p1 : (i : Int) < (n : Int) := by omega
        have HL := Lib.hid hL
        clear hcell hL
        by_cases h3 : 300 < L i
        · unfold maxLen at hLm
          go_wp2_with fail
          go_ret
          exact ⟨rfl, hbr⟩
        · clear hLm
          have hlen := Lib.hid hri.len
          have hF := framesFrom_snoc D i 0
          rw [Nat.zero_add] at hF
          have HF := Lib.hid hF
          clear hF
          go_wp2_with fail
          refine (wrap_yes (A' i) (L i) (C i) (D i) _ wr (by omega) hri hbr.size).mono ?_
          rintro e w3 ⟨A3, c3, rfl, hown3, hb3⟩
          have hs3 := hb3.size
          have hown' := hown.below hb3
          have hbyt3 := hown3.byt
          clear hown hown3
          go_wp2_with (at_builtin; refine wpList_append_byt bty _ rfl (.tmp 38) (.tmp 39) rfl rfl rfl hown' hbyt3 (by omega) (by omega) ?_; intro A4 c4 w4 hown4 hb4)
          go_roundw
          case rel =>
            exact ⟨i + 1, by omega, by go_num, A4, _, c4, rfl, by rw [HF.out]; exact hown4, by omega, (hbr.trans (hb3.mono hbr.size)).trans (hb4.mono hs2), Nat.le_trans (Nat.le_trans hsr hs3) hb4.size, fun r hr => by
              rcases Nat.lt_or_ge r i with h | h
              · exact HL.out r h
              · rw [show r = i from by omega]; omega⟩
          case measure => simp [intOf]; omega
      · obtain rfl : i = n := by omega
        go_wp2_with fail
        obtain ⟨wo, rfl⟩ : ∃ wo : World, wo = wr := ⟨_, rfl⟩
        have hso := hbr.size
        have hcapN := hown.cap
        have hbyt0 := hown.byt
        have hL2 := Lib.hid hL
        clear hown hL hi hlt hb2
        go_loopw [3, 7] (fun av jv wr => ∃ j : Nat, j ≤ i ∧ jv = .int .i64 j ∧ ∃ A m c, av = .slice A m c ∧ m ≤ c ∧ m ≤ 20000 ∧ Byt wr wr.heap.size A m (framesFrom D j (i - j)) ∧ Below w.heap.size w wr)
          (fun _ jv _ => i - (intOf jv).toNat)
        case atStart => exact ⟨0, by omega, rfl, A, N, c, rfl, hcapN, by omega, hbyt0, hbr⟩
        case round =>
          obtain ⟨j, hj, rfl, A2, m, c2, rfl, hmc, hm2, hbyt, hbr2⟩ := hrel
          clear hbr hso hcapN hbyt0 hsr hs2 hN
          by_cases hlt : j < i
          · have hrr := hrows.below hbr2
            obtain ⟨b, off, rfl, hbB, hcell⟩ := hrr.1 (by omega)
            have hci := hcell j hlt
            obtain ⟨hLC, hLm, hri⟩ := hrr.2 j hlt
            have p1 : (j : Int) < (i : Int) := by omega
            have hL3 := hL2.out j hlt
            have hcons : framesFrom D j (i - j) = wrapF (D j) ++ framesFrom D (j + 1) (i - (j + 1)) := by
              rw [show i - j = (i - (j + 1)) + 1 from by omega]
              rfl
            rw [hcons] at hbyt
            have hlenm := hbyt.len
            rw [List.length_append, wrapF_len, hri.len] at hlenm
            obtain ⟨K, hK⟩ : ∃ K : Nat, K = L j + 8 := ⟨_, rfl⟩
            have e1 : (L j : Int) + 8 = (K : Int) := by omega
            have hKm : K ≤ m := by omega
            obtain ⟨A9, hsl, hb9⟩ := cut_from bty A2 m c2 K hKm hmc
            have hdrop : (wrapF (D j) ++ framesFrom D (j + 1) (i - (j + 1))).drop K = framesFrom D (j + 1) (i - (j + 1)) := by
              rw [List.drop_left' (by rw [wrapF_len, hri.len]; omega)]
            have hU := unwrap_back A2 m c2 (D j) (framesFrom D (j + 1) (i - (j + 1))) (L j) _ wr (by omega) hmc hbyt (Nat.le_refl _) hri.len (by omega)
            rw [e1] at hU
            have HU := Lib.hid hU
            have HB := Lib.hid (hb9 wr wr.heap.size _ hbyt)
            have HD := Lib.hid hdrop
            clear hcell hcons hlenm hdrop hU hb9 hbyt hK hLm
            go_wp2_with fail
            refine HU.out.mono ?_
            rintro e w3 ⟨A3, c3, rfl, hp3, hb3⟩
            have hs3 := hb3.size
            have hci3 := (hb3.cell (p := ⟨b, off + j, none⟩) (Nat.lt_of_lt_of_le hbB hbr2.size)).trans hci
            have hb3' := hbr2.trans (hb3.mono hbr2.size)
            have hri3 := hri.below (hb3.mono hbr2.size)
            clear hci HU
            go_wp2_with fail
            refine (bytes_any A3 (A' j) _ c3 _ (C j) _ _ _ _ w3 hp3 hri3).mono ?_
            rintro e w4 ⟨rfl, rfl⟩
            have hd : decide (D j = D j) = true := by simp
            rw [hd]
            clear hd hp3 hri3 hri
            go_wp2_with fail
            go_roundw
            case rel =>
              refine ⟨j + 1, by omega, by go_num, A9, m - K, c2 - K, rfl, by omega, by omega, ?_, hb3'⟩
              have := HB.out
              rw [HD.out] at this
              exact (this.below hb3).more hs3
            case measure => simp [intOf]; omega
          · obtain rfl : j = i := by omega
            have hz := hbyt.len
            rw [Nat.sub_self] at hz
            have hm0 : m = 0 := hz.symm
            subst hm0
            clear hz hbyt
            go_wp2_with fail
            go_ret
            exact ⟨rfl, hbr2⟩

/-- The argument opened. -/
theorem rows_of {H : Type} {enc : TypeId × Value → H} {w : World} {a : Option Addr} {len cap fuel : Nat} {x : DataW H × List MemPlace}
    (h : DataW.trod enc Try.prog w 0 (fun _ => true) true fuel 42 [.slice a len cap] = some x) :
    len ≤ cap ∧ len ≤ maxLen ∧ ∃ A' L C D, IsRows w w.heap.size a len A' L C D := by
  rcases Go.Deep.open_int_rows Try.underlying42 Try.underlying23 Try.underlying5 (by kernel_rfl) (by kernel_rfl) h with ⟨hcs, _⟩ | ⟨a', len', cap', A, L, C, Z, hcs, _, hl, hm, _, hr⟩
  · simp at hcs
    obtain ⟨rfl, rfl, rfl⟩ := hcs
    exact ⟨Nat.le_refl _, Nat.zero_le _, fun _ => none, fun _ => 0, fun _ => 0, fun _ => [], fun h => absurd h (by omega), fun r hr => absurd hr (by omega)⟩
  · simp at hcs
    obtain ⟨rfl, rfl, rfl⟩ := hcs
    refine ⟨hl, by omega, A, L, C, ?_⟩
    have each : ∀ r, r < len → L r ≤ C r ∧ L r ≤ maxLen ∧ ∃ l : List UInt8, Byt w w.heap.size (A r) (L r) l := by
      intro r hrl
      obtain ⟨_, h1, h2, h3, h4, h5, h6⟩ := hr r (by omega)
      refine isRow_byt (cap := C r) (zs := Z r) ?_
      cases hA : A r with
      | none =>
        have hc := h5 hA
        have hz : Z r = [] := List.eq_nil_of_length_eq_zero (by omega)
        exact .inl ⟨rfl, by omega, hc, hz⟩
      | some y =>
        exact .inr ⟨y, rfl, h1, h2, h3, fun i hi => (h6 y hA).2 i (by omega), h4⟩
    have hD : ∃ D : Nat → List UInt8, ∀ r, r < len → Byt w w.heap.size (A r) (L r) (D r) := by
      refine ⟨fun r => if h : r < len then Classical.choose (each r h).2.2 else [], fun r hrl => ?_⟩
      simp only [dif_pos hrl]
      exact Classical.choose_spec (each r hrl).2.2
    obtain ⟨D, hD⟩ := hD
    refine ⟨D, fun hn => ?_, fun r hrl => ⟨(each r hrl).1, (each r hrl).2.1, hD r hrl⟩⟩
    obtain ⟨b, off, spot⟩ := a'
    have h0 := (hr 0 (by omega)).1
    have hspot : spot = none := by simpa [Addr.add] using World.cell?_spot h0
    subst hspot
    refine ⟨b, off, rfl, by simpa [add_plain] using World.block_lt_of_cell? w _ h0, fun r hrl => ?_⟩
    have := (hr r (by omega)).1
    rwa [add_plain] at this

set_option maxRecDepth 100000 in
theorem lifted (os : Os) (started : os.Started) (H : Type) (enc : TypeId × Value → H) :
    ReturnsInHanded {} Try.checked os 8 .any (Rows.frameManySpec.pre6 enc Try.prog Try.f8 Rows.frameManyRow.domain false) (Rows.frameManySpec.post enc Try.prog Try.f8 false true false false) := by
  refine returnsInHanded_of_change (C := Try.checked) own started (by kernel_rfl) Try.func8
    (ChangeSpec.witness6 (enc := enc) (C := Try.checked) false ⟨#[], #[.slice none 0 0], []⟩ 8 (by kernel_rfl) (by kernel_rfl) (by kernel_rfl) (by kernel_rfl)) ?_
  intro W base args ds gs before hval0 hW hcnd _
  have hval : ∀ (j : Nat) t v, Try.f8.params[j]? = some t → args[j]? = some v → Value.okWide Try.prog W .any base t v := hval0
  have hW' := hW
  obtain ⟨p, q, hA0, hV, rfl, hfz, hnd⟩ := hW
  have hA : DataW.TrodAll enc Try.prog W 0 (fun _ => true) true Try.f8.params.toList args.toList ds p := hA0
  rw [Try.params8] at hA hval
  obtain ⟨v0, vs0, d0, ds0, p0, q0, hargs, rfl, rfl, h0, r0⟩ := trodAll_cons hA
  obtain ⟨rfl, rfl, rfl⟩ := trodAll_nil r0
  obtain rfl : args = #[v0] := by cases args; simp_all
  obtain ⟨rfl, rfl⟩ := trodVars_none hV
  obtain ⟨a0, len0, cap0, rfl⟩ := okWide_slice Try.underlying42 (hval 0 42 v0 rfl rfl)
  have k0 := h0
  have lt0 : ∀ x ∈ p0, x.block < W.heap.size := by obtain ⟨m, hm⟩ := k0; exact DataW.trod_lt m _ _ _ hm
  obtain ⟨hl, hm, A', L, C, D, hrows⟩ : len0 ≤ cap0 ∧ len0 ≤ maxLen ∧ ∃ A' L C D, IsRows W W.heap.size a0 len0 A' L C D := by
    obtain ⟨fuel, hf⟩ := h0
    exact rows_of hf
  clear hA0 hval0
  refine (walk a0 len0 cap0 A' L C D W hl hm hrows).mono fun e W' ⟨he, bel⟩ => ?_
  subst he
  exact ⟨_, rfl, _, _, _, [], _, [], hW', trodAll_mk1 (shut_bool Try.underlying4 _), (trodAll_cons_mk (Below.trod laidOut (by kernel_rfl) (of_decide_eq_true (by kernel_rfl)) k0 bel lt0) trodAll_mk0), rfl, bel.frame _, fun h => by cases h⟩

theorem over : Rows.frameManyRow.holds Try.pinned (OpenSpec.ofChange Rows.frameManySpec) :=
  OpenClaim.holds_of_wide 8 Try.f8 rfl rfl rfl rfl rfl rfl rfl ⟨rfl, rfl, rfl, rfl, rfl⟩ rfl rfl rfl rfl rfl (by kernel_rfl) Try.func8 (by kernel_rfl)
    (of_decide_eq_true (by kernel_rfl)) (by unfold Func.isWrapper; first | (rw [if_pos (by decide +kernel)]; kernel_rfl) | (rw [if_neg (by decide +kernel)]; exact ⟨rfl, rfl⟩))
    (fun os started H enc _ => lifted os started H enc)

/-- The statement. -/
theorem proved : Rows.FrameManySaid := over
#print axioms proved
end Go.Proofs.Ytalgnfadfngdoaa.frameMany
