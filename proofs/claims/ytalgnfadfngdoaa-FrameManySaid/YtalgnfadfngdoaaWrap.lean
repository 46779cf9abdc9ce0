/-
  The walks of frames: Little, Unlittle, Four, Number, both Wraps, both Unwraps, Bytes.
-/
import Derived.Test.YtalgnfadfngdoaaAdd
import Derived.Test.YtalgnfadfngdoaaNum
import Derived.Outline
import Derived.Deep.QuietTactic
import Derived.BigQuiet
import Derived.WalkMore
import Derived.ScopeJumps
import Derived.Deep.DeepCutAuto
import Derived.Deep.RegionWith
namespace Go.Proofs.Ytalgnfadfngdoaa
open Go.RowKit

theorem bty : ByteTy Try.prog 23 5 := ⟨Try.underlying23, by
  obtain ⟨i0, hi, hz0, hz1, hz2⟩ := info_parts (show (Try.prog.info? 5).map (fun i => (i.zero, i.size, i.bytes)) = some (some (.int .u8 0), 1, 1) by kernel_rfl)
  exact ⟨i0, hi, hz0, hz1, hz2⟩⟩

theorem ret_int {k : IntKind} {a b : Int} (h : a = b) : Ending.returned (.int k a) = .returned (.int k b) := by rw [h]

set_option maxHeartbeats 400000 in
theorem little_any (A : Option Addr) (n c : Nat) (l : List UInt8) (y : Int) (x : BitVec 64) (hy : y = n64 x) (zi : Int) (z : Nat) (hzi : zi = (z : Int)) (base : Nat) (w : World) (hz : z ≤ 8) (hn : n ≤ 549755813888) (ho : Own w base 5 A n c l) (hB : base ≤ w.heap.size) :
    Calls Try.prog 20 #[.slice A n c, .int .u64 y, .int .i64 zi] w fun e w' => ∃ A' c', e = .returned (.slice A' (n + z) c') ∧ Own w' base 5 A' (n + z) c' (l ++ leN x z) ∧ Below base w w' := by
  subst hy hzi
  go_enter Try.func20, Try.ntmps20
  go_wp2_with fail
  go_loopw [0, 9] (fun v i wr => ∃ k : Nat, k ≤ z ∧ i = .int .i64 k ∧ ∃ A' c', v = .slice A' (n + k) c' ∧ Own wr base 5 A' (n + k) c' (l ++ leN x k) ∧ Below base w wr) (fun _ i _ => z - (intOf i).toNat)
  case atStart => exact ⟨0, Nat.zero_le _, rfl, A, c, rfl, by simpa [leN_zero] using ho, Below.refl _ _⟩
  case round =>
    obtain ⟨k, hk, rfl, A', c', rfl, hown, hbw⟩ := hrel
    by_cases hlt : k < z
    · have hby := n8_by64 x k
      have HL := Lib.hid (leN_succ x k)
      have hsz := hbw.size
      generalize by64 x k = d at *
      go_wp2_with (at_builtin; refine wpList_append_byt bty _ rfl (.tmp 12) (.tmp 18) rfl rfl rfl (hown.alloc _) (Byt.one wr 5 d (wr.heap.size + 1) (by omega)) (by omega) (by simp; omega) ?_; intro A2 c2 w2 hown2 hb2)
      go_roundw
      case rel => exact ⟨k + 1, by omega, by go_num, A2, c2, rfl, by rw [HL.out, ← List.append_assoc]; exact hown2, (hbw.alloc (by omega) _).trans hb2⟩
      case measure => simp [intOf]; omega
    · obtain rfl : k = z := by omega
      go_wp2_with fail
      go_ret
      exact ⟨A', c', rfl, hown, hbw⟩

theorem unlittle_any (A : Option Addr) (n c : Nat) (l : List UInt8) (B : Nat) (w : World) (hn : n ≤ 8) (hr : Byt w B A n l) :
    Calls Try.prog 22 #[.slice A n c] w fun e w' => e = .returned (.int .u64 (n64 (deN l))) ∧ w = w' := by
  go_enter Try.func22, Try.ntmps22
  go_wp2_with fail
  go_loop [3, 8] (fun r i => ∃ k : Nat, k ≤ n ∧ i = .int .i64 k ∧ r = .int .u64 (n64 (deTo l k))) (fun _ i => n - (intOf i).toNat)
  case atStart => exact ⟨0, Nat.zero_le _, rfl, rfl⟩
  case round =>
    obtain ⟨k, hk, rfl, rfl⟩ := hrel
    by_cases hlt : k < n
    · obtain ⟨b, off, d, rfl, hb, hd, hcell⟩ := hr.at_ hlt
      have HS := Lib.hid (deTo_succ l k d hd)
      clear hd
      generalize deTo l k = y at *
      go_wp2_with fail
      go_round
      case rel => exact ⟨k + 1, by omega, by go_num, by rw [HS.out, or_byte]⟩
      case measure => simp [intOf]; omega
    · obtain rfl : k = n := by omega
      have HE := Lib.hid hr.len
      go_wp2_with fail
      go_ret
      exact ⟨ret_int (by unfold deN; rw [HE.out]), rfl⟩

theorem str_beq (l l2 : List UInt8) : ((strOf l).toList == (strOf l2).toList) = decide (l = l2) := by
  unfold strOf
  rw [ByteArray.toList_mk, ByteArray.toList_mk, Bool.eq_iff_iff]
  simp
theorem bytes_any (A A2 : Option Addr) (n c n2 c2 : Nat) (l l2 : List UInt8) (B B2 : Nat) (w : World) (hr : Byt w B A n l) (hr2 : Byt w B2 A2 n2 l2) :
    Calls Try.prog 16 #[.slice A n c, .slice A2 n2 c2] w fun e w' => e = .returned (.bool (decide (l = l2))) ∧ w = w' := by
  have s1 := run_str_byt (S := 9) Try.underlying23 Try.underlying5 Try.underlying9 w hr c
  have s2 := run_str_byt (S := 9) Try.underlying23 Try.underlying5 Try.underlying9 w hr2 c2
  go_enter Try.func16, Try.ntmps16
  go_wp2_with fail
  go_ret
  refine ⟨?_, rfl⟩
  show Ending.returned (.bool ((strOf l).toList == (strOf l2).toList)) = _
  rw [str_beq]

set_option maxHeartbeats 400000 in
theorem four_any (A : Option Addr) (n c : Nat) (l : List UInt8) (y : Int) (x : BitVec 32) (hy : y = n32 x) (base : Nat) (w : World) (hn : n ≤ 549755813888) (ho : Own w base 5 A n c l) (hB : base ≤ w.heap.size) :
    Calls Try.prog 21 #[.slice A n c, .int .u32 y] w fun e w' => ∃ A' c', e = .returned (.slice A' (n + 4) c') ∧ Own w' base 5 A' (n + 4) c' (l ++ le4 x) ∧ Below base w w' := by
  subst hy
  have b0 := n8_by32_0 x
  have b1 := n8_by32_1 x
  have b2 := n8_by32_2 x
  have b3 := n8_by32_3 x
  have HL := Lib.hid (le4_form x)
  generalize by32 x 0 = d0 at *
  generalize by32 x 1 = d1 at *
  generalize by32 x 2 = d2 at *
  generalize by32 x 3 = d3 at *
  have hnew := Byt.news w 5 [d0, d1, d2, d3] (w.heap.size + 1) (by omega)
  go_enter Try.func21, Try.ntmps21
  go_wp2_with (at_builtin; refine wpList_append_byt bty _ rfl (.tmp 5) (.tmp 17) rfl rfl rfl (ho.alloc _) hnew (by simp; omega) (by simp; omega) ?_; intro A2 c2 w2 hown2 hb2)
  go_ret
  exact ⟨A2, c2, rfl, by rw [HL.out]; exact hown2, ((Below.refl _ _).alloc hB _).trans hb2⟩

theorem number_any (A : Option Addr) (n c : Nat) (l : List UInt8) (B : Nat) (w : World) (hn : 4 ≤ n) (hr : Byt w B A n l) :
    Calls Try.prog 23 #[.slice A n c] w fun e w' => e = .returned (.int .u32 (n32 (num4 l))) ∧ ∃ k, w' = w.drewN k := by
  obtain ⟨b, off, d0, rfl, hb, hd0, hc0⟩ := hr.at_ (show 0 < n by omega)
  obtain ⟨b1, off1, d1, e1, _, hd1, hc1⟩ := hr.at_ (show 1 < n by omega)
  obtain ⟨b2, off2, d2, e2, _, hd2, hc2⟩ := hr.at_ (show 2 < n by omega)
  obtain ⟨b3, off3, d3, e3, _, hd3, hc3⟩ := hr.at_ (show 3 < n by omega)
  cases e1; cases e2; cases e3
  simp only [Nat.add_zero] at hc0
  have HV := Lib.hid (num4_sum l d0 d1 d2 d3 hd0 hd1 hd2 hd3)
  clear hr hd0 hd1 hd2 hd3
  have q0 : 0 < n := by omega
  have p0 : (0 : Int) < (n : Int) := by omega
  have p1 : (1 : Int) < (n : Int) := by omega
  have p2 : (2 : Int) < (n : Int) := by omega
  have p3 : (3 : Int) < (n : Int) := by omega
  go_enter Try.func23, Try.ntmps23
  go_wp2_with fail
  go_quiet (fail)
  go_wp2_with fail
  go_ret
  refine ⟨ret_int ?_, nq, rfl⟩
  rw [HV.out]
  have := n8_lo d0; have := n8_lo d1; have := n8_lo d2; have := n8_lo d3
  have := n8_hi d0; have := n8_hi d1; have := n8_hi d2; have := n8_hi d3
  show (((n8 d0 + n8 d1 % 4294967296 * 256 + n8 d2 % 4294967296 * 65536) % 4294967296 + n8 d3 % 4294967296 * 16777216 % 4294967296) % 4294967296) = _
  omega

/-- A frame. -/
def wrapF (l : List UInt8) : List UInt8 := le4 (BitVec.ofNat 32 l.length) ++ l ++ le4 (sumF (le4 (BitVec.ofNat 32 l.length) ++ l))
theorem wrapF_len (l : List UInt8) : (wrapF l).length = l.length + 8 := by
  unfold wrapF
  simp [le4_len]
  omega

set_option maxHeartbeats 400000 in
theorem wrap_no (A : Option Addr) (n c : Nat) (w : World) (hn : 65536 < n) :
    Calls Try.prog 14 #[.slice A n c] w fun e w' => e = .returned (.tuple #[.slice none 0 0, .int .i64 20]) ∧ w = w' := by
  go_enter Try.func14, Try.ntmps14
  go_wp2_with fail
  go_ret2
  exact ⟨rfl, rfl⟩

set_option maxHeartbeats 800000 in
theorem wrap_yes (A : Option Addr) (n c : Nat) (l : List UInt8) (B : Nat) (w : World) (hn : n ≤ 65536) (hr : Byt w B A n l) (hB : B ≤ w.heap.size) :
    Calls Try.prog 14 #[.slice A n c] w fun e w' => ∃ A' c', e = .returned (.tuple #[.slice A' (n + 8) c', .int .i64 0]) ∧ Own w' w.heap.size 5 A' (n + 8) c' (wrapF l) ∧ Below w.heap.size w w' := by
  have HL := Lib.hid hr.len
  have hr1 := hr.more hB
  go_enter Try.func14, Try.ntmps14
  go_wp2_with fail
  refine (little_any none 0 0 [] n ((BitVec.ofNat 32 n).setWidth 64) ((n64_wide _).trans (n32_of n (by omega))).symm 4 4 rfl w.heap.size w (by omega) (by omega) (Own.nil_ _ _ _) (Nat.le_refl _)).mono ?_
  rintro e w1 ⟨A1, c1, rfl, hown1, hb1⟩
  simp only [Nat.zero_add, List.nil_append] at hown1 ⊢
  have hr2 := hr1.below hb1
  have hs1 := hb1.size
  go_wp2_with (at_builtin; refine wpList_append_byt bty _ rfl (.tmp 11) (.tmp 12) rfl rfl rfl hown1 hr2 (by omega) hs1 ?_; intro A2 c2 w2 hown2 hb2)
  have hs2 := hb2.size
  refine (sum_any A2 (4 + n) c2 _ w2.heap.size w2 (by omega) hown2.byt (Nat.le_refl _)).mono ?_
  rintro e w3 ⟨rfl, hb3⟩
  have hs3 := hb3.size
  have hown3 := hown2.below hb3
  generalize hS : sumF (leN (BitVec.setWidth 64 (BitVec.ofNat 32 n)) 4 ++ l) = S at *
  have HS := Lib.hid hS
  clear hS
  go_wp2_with fail
  refine (little_any A2 (4 + n) c2 _ _ (S.setWidth 64) ((wrap64_n32 S).trans (n64_wide S).symm) 4 4 rfl w.heap.size w3 (by omega) (by omega) hown3 (by omega)).mono ?_
  rintro e w4 ⟨A4, c4, rfl, hown4, hb4⟩
  simp only [show 4 + n + 4 = n + 8 from by omega] at hown4 ⊢
  go_wp2_with fail
  go_ret2
  refine ⟨A4, c4, rfl, ?_, ((hb1.trans hb2).trans (hb3.mono (by omega))).trans hb4⟩
  unfold wrapF
  rw [HL.out]
  unfold le4
  rw [HS.out]
  exact hown4

set_option maxHeartbeats 400000 in
theorem rwrap_no (A : Option Addr) (n c : Nat) (w : World) (hn : 65536 < n) :
    Calls Try.prog 15 #[.slice A n c] w fun e w' => e = .returned (.tuple #[.slice none 0 0, .int .i64 20]) ∧ w = w' := by
  go_enter Try.func15, Try.ntmps15
  go_wp2_with fail
  go_ret2
  exact ⟨rfl, rfl⟩

set_option maxHeartbeats 800000 in
theorem rwrap_yes (A : Option Addr) (n c : Nat) (l : List UInt8) (B : Nat) (w : World) (hn : n ≤ 65536) (hr : Byt w B A n l) (hB : B ≤ w.heap.size) :
    Calls Try.prog 15 #[.slice A n c] w fun e w' => ∃ A' c', e = .returned (.tuple #[.slice A' (n + 8) c', .int .i64 0]) ∧ Own w' w.heap.size 5 A' (n + 8) c' (wrapF l) ∧ Below w.heap.size w w' := by
  have HL := Lib.hid hr.len
  have hr1 := hr.more hB
  go_enter Try.func15, Try.ntmps15
  go_wp2_with fail
  refine (four_any none 0 0 [] n (BitVec.ofNat 32 n) (n32_of n (by omega)).symm w.heap.size w (by omega) (Own.nil_ _ _ _) (Nat.le_refl _)).mono ?_
  rintro e w1 ⟨A1, c1, rfl, hown1, hb1⟩
  simp only [Nat.zero_add, List.nil_append] at hown1 ⊢
  have hr2 := hr1.below hb1
  have hs1 := hb1.size
  go_wp2_with (at_builtin; refine wpList_append_byt bty _ rfl (.tmp 11) (.tmp 12) rfl rfl rfl hown1 hr2 (by omega) hs1 ?_; intro A2 c2 w2 hown2 hb2)
  have hs2 := hb2.size
  refine (rsum_any A2 (4 + n) c2 _ w2.heap.size w2 (by omega) hown2.byt).mono ?_
  rintro e w3 ⟨rfl, rfl⟩
  generalize hS : sumF (le4 (BitVec.ofNat 32 n) ++ l) = S at *
  have HS := Lib.hid hS
  clear hS
  go_wp2_with fail
  refine (four_any A2 (4 + n) c2 _ _ S rfl w.heap.size w2 (by omega) hown2 (by omega)).mono ?_
  rintro e w4 ⟨A4, c4, rfl, hown4, hb4⟩
  simp only [show 4 + n + 4 = n + 8 from by omega] at hown4 ⊢
  go_wp2_with fail
  go_ret2
  refine ⟨A4, c4, rfl, ?_, (hb1.trans hb2).trans hb4⟩
  unfold wrapF
  rw [HL.out, HS.out]
  exact hown4

/-- What a frame's reader tells: the error. -/
def uwErr (l : List UInt8) : Nat :=
  if l.length < 4 then 21 else if 65536 < (num4 l).toNat then 20 else if l.length < (num4 l).toNat + 8 then 21
  else if sumF (l.take ((num4 l).toNat + 4)) = num4 (l.drop ((num4 l).toNat + 4)) then 0 else 22
/-- .. how many bytes the payload has, how many the frame, and the payload. -/
def uwN (l : List UInt8) : Nat := if uwErr l = 0 then (num4 l).toNat else 0
def uwSize (l : List UInt8) : Nat := if uwErr l = 0 then (num4 l).toNat + 8 else 0
def uwPay (l : List UInt8) : List UInt8 := if uwErr l = 0 then (l.take ((num4 l).toNat + 4)).drop 4 else []

def UwPost (l : List UInt8) (w : World) (e : Ending) (w' : World) : Prop :=
  ∃ A' c', e = .returned (.tuple #[.slice A' (uwN l) c', .int .i64 (uwSize l), .int .i64 (uwErr l)]) ∧ Byt w' w'.heap.size A' (uwN l) (uwPay l) ∧ Below w.heap.size w w'
theorem uwPost_no {l : List UInt8} {w : World} {e : Ending} {w' : World} {k : Int} (n : Nat) (hk : k = (n : Int)) (he : uwErr l = n) (h0 : n ≠ 0) (h : e = .returned (.tuple #[.slice none 0 0, .int .i64 0, .int .i64 k])) (hb : Below w.heap.size w w') : UwPost l w e w' := by
  subst hk
  have hz : uwErr l ≠ 0 := by omega
  have h1 : uwN l = 0 := by unfold uwN; rw [if_neg hz]
  have h2 : uwSize l = 0 := by unfold uwSize; rw [if_neg hz]
  have h3 : uwPay l = [] := by unfold uwPay; rw [if_neg hz]
  refine ⟨none, 0, ?_, ?_, hb⟩
  · rw [h1, h2, he]; exact h
  · rw [h1, h3]; exact Byt.nil_ _

theorem uwPost_yes {l : List UInt8} {w : World} {e : Ending} {w' : World} {N K M m : Nat} {A : Option Addr} {c : Nat} {a b : Int} (he : uwErr l = 0) (hN : N = (num4 l).toNat) (hK : K = N + 4) (hM : M = N + 8) (hm : m = N)
    (ha : a = (M : Int)) (hb0 : b = 0)
    (h : e = .returned (.tuple #[.slice A m c, .int .i64 a, .int .i64 b])) (hr : Byt w' w'.heap.size A m ((l.take K).drop 4)) (hb : Below w.heap.size w w') : UwPost l w e w' := by
  have h1 : uwN l = N := by unfold uwN; rw [if_pos he, hN]
  have h2 : uwSize l = M := by unfold uwSize; rw [if_pos he, hM, hN]
  have h3 : uwPay l = (l.take K).drop 4 := by unfold uwPay; rw [if_pos he, hK, hN]
  refine ⟨A, c, ?_, ?_, hb⟩
  · rw [h1, h2, he, h, hm, ha, hb0]; rfl
  · rw [h1, h3, ← hm]; exact hr

/-- What holds where frame.Unwrap jumps to its end. -/
def UwJump (A : Option Addr) (n c : Nat) (l : List UInt8) (w : World) (a' : Act) (w' : World) : Prop :=
  w' = w ∧ ∃ (E : Nat) (u3 u5 u6 u7 u8 u9 u10 u11 u12 u13 u14 u15 u16 u17 u18 u19 u20 u21 u22 u23 u24 u25 u26 u27 u28 u29 u30 u31 u32 u33 u34 u35 u36 u37 u38 u39 u40 u41 u42 u43 : Value), a' = { tmps := #[.slice A n c, undef, .slice none 0 0, u3, .int .i64 E, u5, u6, u7, u8, u9, u10, u11, u12, u13, u14, u15, u16, u17, u18, u19, u20, u21, u22, u23, u24, u25, u26, u27, u28, u29, u30, u31, u32, u33, u34, u35, u36, u37, u38, u39, u40, u41, u42, u43], defers := [] } ∧ uwErr l = E ∧ E ≠ 0

set_option maxHeartbeats 800000 in
theorem unwrap_any (A : Option Addr) (n c : Nat) (l : List UInt8) (B : Nat) (w : World) (hn : n ≤ 1099511627776) (hnc : n ≤ c) (hr : Byt w B A n l) (hB : B ≤ w.heap.size) :
    Calls Try.prog 17 #[.slice A n c] w (UwPost l w) := by
  have hl := hr.len
  go_enter Try.func17, Try.ntmps17
  go_wp2_with fail
  refine wp_scope_jumps 0 (UwJump A n c l w) (fun _ _ => 0) rfl ?_ ?_
  · by_cases h1 : n < 4
    · have he : uwErr l = 21 := by unfold uwErr; rw [if_pos (by omega)]
      have HE := Lib.hid he
      clear he hl
      go_wp2_with fail
      go_step3
      exact ⟨rfl, rfl, 21, _, _, _, _, _, _, _, _, _, _, _, _, _, _, _, _, _, _, _, _, _, _, _, _, _, _, _, _, _, _, _, _, _, _, _, _, _, _, _, _, rfl, HE.out, by omega⟩
    · have r4 := hr.mid (i := 0) (j := 4) (A' := A) (by omega) (by omega) (by rintro _ b off rfl; rfl)
      simp only [Nat.sub_zero, List.drop_zero] at r4
      have hU := unlittle_any A 4 c _ B w (by omega) r4
      have hv : n64 (deN (l.take 4)) = n32 (num4 l) := (deN_num4 (l.take 4) (by rw [List.length_take]; omega)).trans (by unfold num4; rw [List.take_take]; rfl)
      rw [hv] at hU
      obtain ⟨N, hN⟩ : ∃ N : Nat, N = (num4 l).toNat := ⟨_, rfl⟩
      have hN2 : n32 (num4 l) = (N : Int) := by rw [hN]; rfl
      have hN3 : N < 4294967296 := by rw [hN]; exact (num4 l).isLt
      rw [hN2] at hU
      have HU := Lib.hid hU
      have HN := Lib.hid hN
      clear hU hv hN2 hN
      by_cases h2 : 65536 < N
      · have he : uwErr l = 20 := by unfold uwErr; rw [if_neg (by omega), if_pos (by rw [← HN.out]; omega)]
        have HE := Lib.hid he
        clear he hl
        go_wp2_with fail
        refine HU.out.mono ?_
        rintro e w1 ⟨rfl, rfl⟩
        go_wp2_with fail
        go_step3
        exact ⟨rfl, rfl, 20, _, _, _, _, _, _, _, _, _, _, _, _, _, _, _, _, _, _, _, _, _, _, _, _, _, _, _, _, _, _, _, _, _, _, _, _, _, _, _, _, rfl, HE.out, by omega⟩
      · by_cases h3 : n < N + 8
        · have he : uwErr l = 21 := by unfold uwErr; rw [if_neg (by omega), if_neg (by rw [← HN.out]; omega), if_pos (by rw [← HN.out]; omega)]
          have HE := Lib.hid he
          clear he hl
          go_wp2_with fail
          refine HU.out.mono ?_
          rintro e w1 ⟨rfl, rfl⟩
          go_wp2_with fail
          go_step3
          exact ⟨rfl, rfl, 21, _, _, _, _, _, _, _, _, _, _, _, _, _, _, _, _, _, _, _, _, _, _, _, _, _, _, _, _, _, _, _, _, _, _, _, _, _, _, _, _, rfl, HE.out, by omega⟩
        · obtain ⟨M, hM⟩ : ∃ M : Nat, M = N + 8 := ⟨_, rfl⟩
          obtain ⟨K, hK⟩ : ∃ K : Nat, K = N + 4 := ⟨_, rfl⟩
          have q1 : (M : Int) ≤ (n : Int) := by omega
          have q2 : (K : Int) ≤ (M : Int) := by omega
          have q3 : (4 : Int) ≤ (K : Int) := by omega
          have q4 : (M : Int) ≤ (c : Int) := by omega
          have q5 : K < M := by omega
          have q6 : M ≤ c := by omega
          have q7 : ¬ c = K := by omega
          have e1 : 4 + (N : Int) + 4 = (M : Int) := by omega
          have e2 : IntKind.i64.wrap ((M : Int) - 4) = (K : Int) := by rw [IntKind.wrap_i64]; omega
          have HM := Lib.hid hM
          have HK := Lib.hid hK
          clear hM hK
          go_wp2_with fail
          refine HU.out.mono ?_
          rintro e w1 ⟨rfl, rfl⟩
          go_upto_region 10 with fail
          have rK := (hr.more hB).mid (i := 0) (j := K) (A' := A) (by omega) (by omega) (by rintro _ b off rfl; rfl)
          simp only [Nat.sub_zero, List.drop_zero] at rK
          have rM := (hr.more hB).mid (i := K) (j := M) (A' := Option.map (fun x => x.add K) A) (by omega) (by omega) (by rintro _ b off rfl; simp [add_plain])
          have hU2 : ∀ X : World, Byt X w.heap.size (Option.map (fun x => x.add K) A) (M - K) ((l.take M).drop K) →
              Calls Try.prog 22 #[.slice (Option.map (fun x => x.add K) A) (M - K) (c - K)] X fun e w' => e = .returned (.int .u64 (n32 (num4 (l.drop K)))) ∧ X = w' := by
            intro X hX
            have h := unlittle_any _ (M - K) (c - K) _ w.heap.size X (by have := HM.out; have := HK.out; omega) hX
            rw [deN_num4 _ (by rw [List.length_drop, List.length_take]; have := HM.out; have := HK.out; omega)] at h
            rw [show num4 ((l.take M).drop K) = num4 (l.drop K) from by
              unfold num4
              rw [List.drop_take, List.take_take, show min 4 (M - K) = 4 from by have := HM.out; have := HK.out; omega]] at h
            exact h
          have HU2 := Lib.hid hU2
          clear hU2 HU
          go_cut [34] (fun s wx => s = .bool (n32 (sumF (l.take K)) != n32 (num4 (l.drop K))) ∧ Below w.heap.size w wx)
          case first =>
            go_region_with (first | (go_at_call 12; refine (sum_any A K c _ w.heap.size w.drew (by omega) rK (Nat.le_refl _)).mono ?_; rintro e w1 ⟨rfl, hb1⟩) | (go_at_call 22; refine (HU2.out _ ?_).mono ?_; (first | exact rM.drew | exact rM.drew.below hb1); rintro e w2 ⟨rfl, rfl⟩))
            all_goals (go_wp2_with fail; go_meet; exact ⟨by rw [wrap64_n32], (Below.refl _ _).drew.trans hb1⟩)
          case rest =>
            obtain ⟨rfl, hbc⟩ := hcut
            have hsc := hbc.size
            by_cases h4 : sumF (l.take K) = num4 (l.drop K)
            · have he : uwErr l = 0 := by
                unfold uwErr
                rw [if_neg (by omega), if_neg (by rw [← HN.out]; omega), if_neg (by rw [← HN.out]; omega), ← HN.out, ← HK.out, if_pos h4]
              have hb0 : (n32 (sumF (l.take K)) != n32 (num4 (l.drop K))) = false := by rw [h4]; simp
              rw [hb0]
              clear hb0
              have HE := Lib.hid he
              have H4 := Lib.hid h4
              clear he h4 HU2 hl
              have rP := ((hr.more hB).mid (i := 4) (j := K) (A' := Option.map (fun x => ⟨x.block, x.off + 4, none⟩) A) (by omega) (by omega) (by rintro _ b off rfl; simp)).below hbc
              go_wp2_with fail
              go_step3
              go_wp2_with (at_builtin; refine wpList_append_byt bty _ rfl (.const (.slice none 0 0)) (.tmp 41) rfl rfl rfl (Own.nil_ wc wc.heap.size 5) rP (by omega) (Nat.le_refl _) ?_; intro A2 c2 w2 hown2 hb2)
              simp only [Exit.jump]
              go_ret3
              exact uwPost_yes HE.out HN.out HK.out HM.out (by have := HK.out; omega) rfl rfl rfl (by simpa using hown2.byt) (hbc.trans (hb2.mono hsc))
            · have he : uwErr l = 22 := by
                unfold uwErr
                rw [if_neg (by omega), if_neg (by rw [← HN.out]; omega), if_neg (by rw [← HN.out]; omega), ← HN.out, ← HK.out, if_neg h4]
              have hb0 : (n32 (sumF (l.take K)) != n32 (num4 (l.drop K))) = true := by
                rw [bne_iff_ne]
                exact fun h => h4 (n32_inj h)
              rw [hb0]
              clear hb0
              have HE := Lib.hid he
              clear he h4 HU2 hl
              go_wp2_with fail
              go_step3
              go_wp2_with fail
              simp only [Exit.jump]
              go_ret3
              exact uwPost_no 22 rfl HE.out (by omega) rfl hbc
  · rintro a' w' ⟨rfl, E, u3, u5, u6, u7, u8, u9, u10, u11, u12, u13, u14, u15, u16, u17, u18, u19, u20, u21, u22, u23, u24, u25, u26, u27, u28, u29, u30, u31, u32, u33, u34, u35, u36, u37, u38, u39, u40, u41, u42, u43, rfl, he, h0⟩
    have HE := Lib.hid he
    have hb : ((E : Int) != 0) = true := by rw [bne_iff_ne]; omega
    clear he
    go_wp2_with fail
    go_ret3
    exact uwPost_no E rfl HE.out h0 rfl (Below.refl _ _)

theorem below_drewN {B : Nat} {a w : World} (h : Below B a w) (n : Nat) : Below B a (w.drewN n) := ⟨h.os, h.tape, h.output, h.size, h.block⟩

set_option maxHeartbeats 800000 in
theorem runwrap_any (A : Option Addr) (n c : Nat) (l : List UInt8) (B : Nat) (w : World) (hn : n ≤ 1099511627776) (hnc : n ≤ c) (hr : Byt w B A n l) (hB : B ≤ w.heap.size) :
    Calls Try.prog 18 #[.slice A n c] w (UwPost l w) := by
  have hl := hr.len
  by_cases h1 : n < 4
  · have he : uwErr l = 21 := by unfold uwErr; rw [if_pos (by omega)]
    have HE := Lib.hid he
    clear he hl
    go_enter Try.func18, Try.ntmps18
    go_wp2_with fail
    go_ret3
    exact uwPost_no 21 rfl HE.out (by omega) rfl (Below.refl _ _)
  · have hU := number_any A n c l B w (by omega) hr
    obtain ⟨N, hN⟩ : ∃ N : Nat, N = (num4 l).toNat := ⟨_, rfl⟩
    have hN2 : n32 (num4 l) = (N : Int) := by rw [hN]; rfl
    have hN3 : N < 4294967296 := by rw [hN]; exact (num4 l).isLt
    rw [hN2] at hU
    have HU := Lib.hid hU
    have HN := Lib.hid hN
    clear hU hN2 hN
    by_cases h2 : 65536 < N
    · have he : uwErr l = 20 := by unfold uwErr; rw [if_neg (by omega), if_pos (by rw [← HN.out]; omega)]
      have HE := Lib.hid he
      clear he hl
      go_enter Try.func18, Try.ntmps18
      go_wp2_with fail
      refine HU.out.mono ?_
      rintro e w1 ⟨rfl, kk, rfl⟩
      go_wp2_with fail
      go_ret3
      exact uwPost_no 20 rfl HE.out (by omega) rfl (below_drewN (Below.refl _ _) _)
    · by_cases h3 : n < N + 8
      · have he : uwErr l = 21 := by unfold uwErr; rw [if_neg (by omega), if_neg (by rw [← HN.out]; omega), if_pos (by rw [← HN.out]; omega)]
        have HE := Lib.hid he
        clear he hl
        go_enter Try.func18, Try.ntmps18
        go_wp2_with fail
        refine HU.out.mono ?_
        rintro e w1 ⟨rfl, kk, rfl⟩
        go_wp2_with fail
        go_ret3
        exact uwPost_no 21 rfl HE.out (by omega) rfl (below_drewN (Below.refl _ _) _)
      · obtain ⟨K, hK⟩ : ∃ K : Nat, K = N + 4 := ⟨_, rfl⟩
        have q1 : (K : Int) ≤ (n : Int) := by omega
        have q3 : (4 : Int) ≤ (K : Int) := by omega
        have q4 : (K : Int) ≤ (c : Int) := by omega
        have q5 : ¬ (n : Int) < (K : Int) + 4 := by omega
        have q7 : ¬ c = K := by omega
        have e1 : (N : Int) + 4 = (K : Int) := by omega
        have HK := Lib.hid hK
        clear hK
        have rK := (hr.more hB).mid (i := 0) (j := K) (A' := A) (by omega) (by omega) (by rintro _ b off rfl; rfl)
        simp only [Nat.sub_zero, List.drop_zero] at rK
        have rM := (hr.more hB).mid (i := K) (j := n) (A' := Option.map (fun x => x.add K) A) (by omega) (by omega) (by rintro _ b off rfl; simp [add_plain])
        rw [List.take_of_length_le (by omega)] at rM
        go_enter Try.func18, Try.ntmps18
        go_wp2_with fail
        refine HU.out.mono ?_
        rintro e w1 ⟨rfl, kk, rfl⟩
        go_wp2_with fail
        have hb0 : Below w.heap.size w (w.drewN kk) := below_drewN (Below.refl _ _) _
        have rK2 := rK.below hb0
        have rM2 := rM.below hb0
        generalize w.drewN kk = W at *
        go_quiet ((first | (go_at_call 13; exact Calls.quiet_of_same ((rsum_any A K c _ w.heap.size _ (by omega) (rK2.drewN _)).mono fun _ _ ⟨he, hw⟩ => ⟨he, hw.symm⟩)) | (go_at_call 23; exact Calls.quiet_of (number_any _ (n - K) (c - K) _ w.heap.size _ (by omega) (rM2.drewN _)))))
        have hb1 := below_drewN hb0 nq
        have hsz := hb1.size
        clear HU
        generalize W.drewN nq = W2 at *
        by_cases h4 : sumF (l.take K) = num4 (l.drop K)
        · have he : uwErr l = 0 := by
            unfold uwErr
            rw [if_neg (by omega), if_neg (by rw [← HN.out]; omega), if_neg (by rw [← HN.out]; omega), ← HN.out, ← HK.out, if_pos h4]
          have HE := Lib.hid he
          rw [h4]
          clear he hl h4
          have rP := ((hr.more hB).mid (i := 4) (j := K) (A' := Option.map (fun x => ⟨x.block, x.off + 4, none⟩) A) (by omega) (by omega) (by rintro _ b off rfl; simp)).below hb1
          have q8 : ¬ c = 4 := by omega
          go_wp2_with fail
          go_ret3
          exact uwPost_yes (M := N + 8) HE.out HN.out HK.out rfl (by have := HK.out; omega) (by have := HK.out; omega) rfl rfl (rP.more hsz) hb1
        · have he : uwErr l = 22 := by
            unfold uwErr
            rw [if_neg (by omega), if_neg (by rw [← HN.out]; omega), if_neg (by rw [← HN.out]; omega), ← HN.out, ← HK.out, if_neg h4]
          have hb0 : (n32 (num4 (l.drop K)) != n32 (sumF (l.take K))) = true := by
            rw [bne_iff_ne]
            exact fun h => h4 (n32_inj h).symm
          have HE := Lib.hid he
          clear he h4 hl
          go_wp2_with fail
          go_ret3
          exact uwPost_no 22 rfl HE.out (by omega) rfl hb1
end Go.Proofs.Ytalgnfadfngdoaa
