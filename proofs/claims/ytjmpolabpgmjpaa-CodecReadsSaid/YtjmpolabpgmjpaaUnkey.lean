/-
  The walk of codec.Unkey.
-/
import Derived.Test.YtjmpolabpgmjpaaUnrow
import Derived.Test.YtjmpolabpgmjpaaFind
import Derived.Outline
import Derived.BigQuiet
import Derived.WalkMore
import Derived.Deep.DeepCutAuto
import Derived.Deep.RegionWith
namespace Go.Proofs.Ytjmpolabpgmjpaa
open Go.RowKit

def UnkeyPost (b : List UInt8) (w : World) (e : Ending) (w' : World) : Prop :=
  (∃ vs A n c, (∀ v ∈ vs, okV v) ∧ vs.length ≤ 3 ∧ keyF vs = b ∧ e = .returned (.tuple #[.slice A n c, .int .i64 0]) ∧ OwnV w' w.heap.size A n c vs ∧ Below w.heap.size w w') ∨
  (NoKey b ∧ e = .returned (.tuple #[.slice none 0 0, .int .i64 70]) ∧ Below w.heap.size w w')

theorem take_while (r : List UInt8) : r.take (r.takeWhile (fun y => y != 0)).length = r.takeWhile (fun y => y != 0) := by
  induction r with
  | nil => rfl
  | cons a r ih =>
    rw [List.takeWhile_cons]
    split
    · rw [List.length_cons, List.take_succ_cons, ih]
    · rfl
theorem drew_alloc (W : World) (X : Obj) : (W.alloc X).drew = (W.drew).alloc X := rfl
def signX (x : BitVec 64) : BitVec 64 := x ^^^ 9223372036854775808#64
theorem xor_sign (x : BitVec 64) : bits .xor .u64 (n64 x) 9223372036854775808 = n64 (signX x) := by
  have h : (9223372036854775808 : Int) = n64 9223372036854775808#64 := by decide
  rw [h, xor64]
  rfl
def lenOf : Value → Nat | .slice _ n _ => n | _ => 0
theorem frame97 (u : Nat → Value) : ((List.range 97).map u).toArray = #[u 0, u 1, u 2, u 3, u 4, u 5, u 6, u 7, u 8, u 9, u 10, u 11, u 12, u 13, u 14, u 15, u 16, u 17, u 18, u 19, u 20, u 21, u 22, u 23, u 24, u 25, u 26, u 27, u 28, u 29, u 30, u 31, u 32, u 33, u 34, u 35, u 36, u 37, u 38, u 39, u 40, u 41, u 42, u 43, u 44, u 45, u 46, u 47, u 48, u 49, u 50, u 51, u 52, u 53, u 54, u 55, u 56, u 57, u 58, u 59, u 60, u 61, u 62, u 63, u 64, u 65, u 66, u 67, u 68, u 69, u 70, u 71, u 72, u 73, u 74, u 75, u 76, u 77, u 78, u 79, u 80, u 81, u 82, u 83, u 84, u 85, u 86, u 87, u 88, u 89, u 90, u 91, u 92, u 93, u 94, u 95, u 96] := rfl
/-- What holds where Unkey jumps to its end. -/
def UkJump (b : List UInt8) (w : World) (a' : Act) (w' : World) : Prop :=
  a'.tmps.size = 97 ∧ a'.defers = [] ∧ Below w.heap.size w w' ∧ NoKey b

set_option maxRecDepth 20000 in
set_option maxHeartbeats 6400000 in
theorem unkey_any (A : Option Addr) (n c : Nat) (b : List UInt8) (B : Nat) (w : World) (hn : n ≤ 1099511627776) (hnc : n ≤ c) (hr : Byt w B A n b) (hB : B ≤ w.heap.size) :
    Calls Try.prog 23 #[.slice A n c] w (UnkeyPost b w) := by
  have hl := hr.len
  go_enter Try.func23, Try.ntmps23
  go_wp2_with fail
  refine wp_scope_jumps 0 (UkJump b w) (fun _ _ => 0) rfl ?_ ?_
  · have HR0 := Lib.hid hr
    have hinv := Lib.hid (InvK.start b)
    clear hl
    go_wp2_with fail
    go_loopw [4, 5] (fun o r wr => ∃ (out : List Val) (rest : List UInt8) (Ao : Option Addr) (mo co : Nat) (Ar : Option Addr) (nr cr : Nat), o = .slice Ao mo co ∧ r = .slice Ar nr cr ∧ OwnV wr w.heap.size Ao mo co out ∧ Byt wr B Ar nr rest ∧ nr ≤ cr ∧ nr ≤ n ∧ mo ≤ 4 ∧ Hid (InvK b out rest) ∧ Below w.heap.size w wr) (fun _ r _ => lenOf r)
    case atStart =>
      exact ⟨[], b, none, 0, 0, A, n, c, rfl, rfl, OwnV.nil_ _ _, HR0.out, hnc, Nat.le_refl _, by omega, hinv, Below.refl _ _⟩
    case round =>
      obtain ⟨out, rest, Ao, mo, co, Ar, nr, cr, rfl, rfl, hown, hy, hnr, hnn, hmo, hI, hbr⟩ := hrel
      have hsr := hbr.size
      clear hr hinv
      have HLEN := Lib.hid hy.len
      have HOL := Lib.hid hown.len
      by_cases hgo : 0 < nr ∧ mo ≤ 3
      · obtain ⟨hg1, hg2⟩ := hgo
        have p0 : (0 : Int) < (nr : Int) := by omega
        have p1 : (mo : Int) ≤ 3 := by omega
        obtain ⟨c1, r1, rfl⟩ : ∃ c1 r1, rest = c1 :: r1 := by
          cases rest with
          | nil => have := HLEN.out; simp at this; omega
          | cons c1 r1 => exact ⟨c1, r1, rfl⟩
        obtain ⟨A1, A3, hcut, hcall⟩ := cut_yes Ar nr cr 1 1 rfl (by omega) hnr
        obtain ⟨hy1, hy3⟩ := hcut wr B _ hy
        obtain ⟨b3, o3, d3, rfl, hb3, hd, hcell⟩ := hy1.at_ (k := 0) (by omega)
        obtain rfl : d3 = c1 := by simpa using hd.symm
        have hcell' : wr.cell? ⟨b3, o3, none⟩ = some (.int .u8 (n8 d3)) := by simpa using hcell
        simp only [List.drop_succ_cons, List.drop_zero] at hy3
        have HCALL := Lib.hid hcall
        clear hcut hcall hd hcell hy1
        go_wp2_with fail
        refine (HCALL.out _).mono ?_
        rintro e w4 ⟨rfl, m4, hm4⟩
        have hb4 : Below w.heap.size w w4 := by rw [hm4]; exact below_drewN hbr _
        have hs4 := hb4.size
        have hown4 : OwnV w4 w.heap.size Ao mo co out := by rw [hm4]; exact hown.drewN _
        have hy4 : Byt w4 B A3 (nr - 1) r1 := by rw [hm4]; exact hy3.drewN _
        have hcA : w4.cell? ⟨b3, o3, none⟩ = some (.int .u8 (n8 d3)) := by rw [hm4]; exact hcell'
        have hblk := Lib.hid hown4.blk
        have hfar : Hid (∀ x, Ao = some x → x.block ≠ w4.heap.size) := fun x hx => by have := (hblk.out x hx).2; omega
        clear hm4 hcell' hy3 hy hown hbr hsr HCALL
        by_cases hk1 : d3.toNat = 1
        · have hn8 : n8 d3 = 1 := by unfold n8; omega
          go_wp2_with fail
          by_cases hz1 : nr - 1 = 0
          · have hrest : r1 = [] := List.eq_nil_of_length_eq_zero (by rw [hy4.len, hz1])
            have HNO := Lib.hid (InvK.bad hI.out (by simp) (by rw [hrest]; simp only [keyStep]; rw [if_pos hk1]))
            clear hI hrest
            refine (cut_no A3 (nr - 1) (cr - 1) 1 _ rfl _ (by omega)).mono ?_
            rintro e w5 ⟨rfl, rfl⟩
            go_wp2_with fail
            go_step3
            exact ⟨rfl, rfl, rfl, hb4.alloc hs4 _, HNO.out⟩
          obtain ⟨d4, r2, rfl⟩ : ∃ d4 r2, r1 = d4 :: r2 := by
            cases r1 with
            | nil => have := hy4.len; simp at this; omega
            | cons d4 r2 => exact ⟨d4, r2, rfl⟩
          obtain ⟨A1, A5, hcut, hcall⟩ := cut_yes A3 (nr - 1) (cr - 1) 1 1 rfl (by omega) (by omega)
          obtain ⟨hy1, hy5⟩ := hcut w4 B _ hy4
          obtain ⟨b4, o4, d5, rfl, hb5, hd, hcell⟩ := hy1.at_ (k := 0) (by omega)
          obtain rfl : d5 = d4 := by simpa using hd.symm
          have hcB : ∀ X m, ((w4.alloc X).drewN m).cell? ⟨b4, o4, none⟩ = some (.int .u8 (n8 d5)) := fun X m => ((hy1.alloc (by omega) X).drewN m).2 (by omega) |> fun ⟨b, off, e, _, h⟩ => by
            injection e with e; injection e with e1 e2; subst e1 e2
            simpa using h 0 d5 (by simp)
          simp only [List.drop_succ_cons, List.drop_zero] at hy5
          have HCALL2 := Lib.hid hcall
          have HST := Lib.hid (show keyStep (d3 :: d5 :: r2) = some (⟨1, d5.toNat, []⟩, r2) by simp only [keyStep]; rw [if_pos hk1])
          clear hcut hcall hd hcell hy1 hk1
          refine (HCALL2.out _).mono ?_
          rintro e w5 ⟨rfl, m5, rfl⟩
          go_wp2_with (at_builtin; refine wpList_append_val _ rfl (.tmp 80) (.tmp 82) rfl ⟨1, d5.toNat, []⟩ _ _ _ rfl (wrap64_byte d5) rfl _ (by simp) rfl rfl (((hown4.alloc _).drewN _).setCell hfar.out _) (by omega) (by simp; omega) ?_; intro A6 c6 w6 hown6' hb6'; have hown6 := Lib.hid hown6'; have hb6 := Lib.hid hb6'; clear hown6' hb6')
          go_roundw
          case rel => exact ⟨out ++ [⟨1, d5.toNat, []⟩], r2, A6, mo + 1, c6, A5, (nr - 1 - 1), (cr - 1 - 1), rfl, rfl, hown6.out, hy5.below ((Below.trans ((below_drewN ((Below.refl w.heap.size w4).alloc hs4 _) _).setCell hs4 _) hb6.out).mono hB), by omega, by omega, by omega, Lib.hid (InvK.step hI.out (by rw [HLEN.out]; omega) HST.out), Below.trans ((below_drewN (hb4.alloc hs4 _) _).setCell hs4 _) hb6.out⟩
          case measure => simp [lenOf]; omega
        by_cases hk2 : d3.toNat = 2
        · have hn8 : n8 d3 = 2 := by unfold n8; omega
          go_wp2_with fail
          by_cases hz1 : nr - 1 < 8
          · have hy4l := Lib.hid hy4.len
            have HNO := Lib.hid (InvK.bad hI.out (by simp) (by simp only [keyStep]; rw [if_neg hk1, if_pos hk2, if_pos (by rw [hy4l.out]; exact hz1)]))
            clear hI
            refine (cut_no A3 (nr - 1) (cr - 1) 8 _ rfl _ hz1).mono ?_
            rintro e w5 ⟨rfl, rfl⟩
            go_wp2_with fail
            go_step3
            exact ⟨rfl, rfl, rfl, hb4.alloc hs4 _, HNO.out⟩
          obtain ⟨A4, A5, hcut, hcall⟩ := cut_yes A3 (nr - 1) (cr - 1) 8 8 rfl (by omega) (by omega)
          obtain ⟨hy8, hy5⟩ := hcut w4 B _ hy4
          have HCALL2 := Lib.hid hcall
          have HST := Lib.hid (show keyStep (d3 :: r1) = some (⟨2, (deB (r1.take 8) ^^^ 9223372036854775808#64).toInt, []⟩, r1.drop 8) by simp only [keyStep]; rw [if_neg hk1, if_pos hk2, if_neg (by rw [hy4.len]; exact hz1)])
          clear hk1 hk2 hcut hcall
          refine (HCALL2.out _).mono ?_
          rintro e w5 ⟨rfl, m5, rfl⟩
          go_wp2_with fail
          refine (unbig_any A4 8 8 (r1.take 8) B _ (by omega) ((hy8.alloc (by omega) _).drewN _)).mono ?_
          rintro e w6 ⟨rfl, rfl⟩
          have hx := xor_sign (deB (r1.take 8))
          have HM := Lib.hid (wrap64_n64 (signX (deB (r1.take 8))))
          have HST2 : Hid (keyStep (d3 :: r1) = some (⟨2, (signX (deB (r1.take 8))).toInt, []⟩, r1.drop 8)) := HST
          clear HST
          generalize deB (r1.take 8) = x64 at *
          generalize signX x64 = y64 at *
          go_wp2_with (at_builtin; refine wpList_append_val _ rfl (.tmp 80) (.tmp 82) rfl ⟨2, y64.toInt, []⟩ _ _ _ rfl HM.out rfl _ (by simp) rfl rfl (((hown4.alloc _).drewN _).setCell hfar.out _) (by omega) (by simp; omega) ?_; intro A6 c6 w6 hown6' hb6'; have hown6 := Lib.hid hown6'; have hb6 := Lib.hid hb6'; clear hown6' hb6')
          go_roundw
          case rel => exact ⟨out ++ [⟨2, y64.toInt, []⟩], (r1.drop 8), A6, mo + 1, c6, A5, (nr - 1 - 8), (cr - 1 - 8), rfl, rfl, hown6.out, hy5.below ((Below.trans ((below_drewN ((Below.refl w.heap.size w4).alloc hs4 _) _).setCell hs4 _) hb6.out).mono hB), by omega, by omega, by omega, Lib.hid (InvK.step hI.out (by rw [HLEN.out]; omega) HST2.out), Below.trans ((below_drewN (hb4.alloc hs4 _) _).setCell hs4 _) hb6.out⟩
          case measure => simp [lenOf]; omega
        by_cases hk3 : d3.toNat = 3
        · have hn8 : n8 d3 = 3 := by unfold n8; omega
          go_wp2_with fail
          refine (find_any A3 (nr - 1) (cr - 1) r1 B _ (hy4.alloc (by omega) _)).mono ?_
          rintro e w5 ⟨rfl, rfl⟩
          rw [index_zero]
          by_cases hm : (0 : UInt8) ∈ r1
          · rw [if_pos hm]
            have hsp := congrArg List.length (takeWhile_split r1 hm)
            have htk := take_while r1
            rw [List.length_append, List.length_cons, hy4.len] at hsp
            obtain ⟨K, hK⟩ : ∃ K, K = (r1.takeWhile (fun y => y != 0)).length := ⟨_, rfl⟩
            have HST := Lib.hid (show keyStep (d3 :: r1) = some (⟨3, 0, r1.take K⟩, r1.drop (K + 1)) by simp only [keyStep]; rw [if_neg hk1, if_neg hk2, if_pos hk3, if_pos hm, hK, htk])
            rw [← hK] at hsp ⊢
            have hK1 : K + 1 ≤ nr - 1 := by omega
            clear hk1 hk2 hk3 hm htk hK hsp
            have hK2 : K ≤ nr - 1 := by omega
            have hc1 : nr - 1 ≤ cr - 1 := by omega
            obtain ⟨A7, hsl7, hb7⟩ := cut_to bty A3 (nr - 1) (cr - 1) K hK2 hc1
            obtain ⟨M, hM⟩ : ∃ M, M = K + 1 := ⟨_, rfl⟩
            rw [← hM] at HST hK1
            obtain ⟨_, A8, _, hsl8, hb8⟩ := cut_both bty A3 (nr - 1) (cr - 1) M hK1 hc1
            have hy7 := hb7 _ _ _ hy4
            have hy8 := (hb8 _ _ _ hy4).2
            have hs1 := fun X m => run_str_byt (S := 9) Try.underlying25 Try.underlying5 Try.underlying9 _ ((hy7.alloc (by omega) X).drewN m) (cr - 1)
            have hs2 := fun X => run_str_byt (S := 9) Try.underlying25 Try.underlying5 Try.underlying9 _ ((hy7.alloc (by omega) X)) (cr - 1)
            have hs3 := fun X => run_str_byt (S := 9) Try.underlying25 Try.underlying5 Try.underlying9 _ ((hy7.alloc (by omega) X).drew) (cr - 1)
            have q1 : (0 : Int) ≤ (K : Int) := by omega
            have e1 : ((K : Int) + 1) = (M : Int) := by omega
            have q2 : IntKind.i64.wrap (M : Int) = (M : Int) := by rw [IntKind.wrap_i64]; omega
            clear hb7 hb8 hM
            go_upto_region 20 with fail
            go_region_with (fail)
            all_goals
              go_wp2_with (at_builtin; rw [drew_alloc]; refine wpList_append_val _ rfl (.tmp 80) (.tmp 82) rfl ⟨3, 0, r1.take K⟩ _ _ _ rfl rfl rfl _ (by simp) rfl rfl (by first | exact (hown4.alloc _).drew | exact ((hown4.alloc _).drewN _).setCell hfar.out _ | exact ((hown4.alloc _).setCell hfar.out _).drewN _ | exact ((hown4.alloc _).drew).setCell hfar.out _ | exact ((hown4.alloc _).setCell hfar.out _).drew | exact (hown4.alloc _).setCell hfar.out _) (by omega) (by simp; omega) ?_; intro A6 c6 w6 hown6' hb6'; have hown6 := Lib.hid hown6'; have hb6 := Lib.hid hb6'; clear hown6' hb6')
              go_roundw
              case rel => exact ⟨out ++ [⟨3, 0, r1.take K⟩], (r1.drop M), A6, mo + 1, c6, A8, (nr - 1 - M), (cr - 1 - M), rfl, rfl, hown6.out, hy8.below ((Below.trans (by first | exact ((Below.refl w.heap.size w4).alloc hs4 _).drew | exact (below_drewN ((Below.refl w.heap.size w4).alloc hs4 _) _).setCell hs4 _ | exact below_drewN (((Below.refl w.heap.size w4).alloc hs4 _).setCell hs4 _) _ | exact (((Below.refl w.heap.size w4).alloc hs4 _).drew.setCell hs4 _) | exact (((Below.refl w.heap.size w4).alloc hs4 _).setCell hs4 _).drew | exact ((Below.refl w.heap.size w4).alloc hs4 _).setCell hs4 _) hb6.out).mono hB), by omega, by omega, by omega, Lib.hid (InvK.step hI.out (by rw [HLEN.out]; omega) HST.out), Below.trans (by first | exact (hb4.alloc hs4 _).drew | exact (below_drewN (hb4.alloc hs4 _) _).setCell hs4 _ | exact below_drewN ((hb4.alloc hs4 _).setCell hs4 _) _ | exact ((hb4.alloc hs4 _).drew.setCell hs4 _) | exact ((hb4.alloc hs4 _).setCell hs4 _).drew | exact (hb4.alloc hs4 _).setCell hs4 _) hb6.out⟩
              case measure => simp [lenOf]; omega
          · rw [if_neg hm]
            have HNO := Lib.hid (InvK.bad hI.out (by simp) (by simp only [keyStep]; rw [if_neg hk1, if_neg hk2, if_pos hk3, if_neg hm]))
            clear hI
            go_wp2_with fail
            go_step3
            exact ⟨rfl, rfl, rfl, hb4.alloc hs4 _, HNO.out⟩
        · have hh1 : ¬ n8 d3 = 1 := by unfold n8; omega
          have hh2 : ¬ n8 d3 = 2 := by unfold n8; omega
          have hh3 : ¬ n8 d3 = 3 := by unfold n8; omega
          have HST := Lib.hid (show keyStep (d3 :: r1) = some (⟨d3.toNat, 0, []⟩, r1) by simp only [keyStep]; rw [if_neg hk1, if_neg hk2, if_neg hk3])
          have hkk := wrap64_byte d3
          have hw := wrap64_n8 d3
          clear hk1 hk2 hk3
          go_wp2_with (at_builtin; refine wpList_append_val _ rfl (.tmp 80) (.tmp 82) rfl ⟨d3.toNat, 0, []⟩ _ _ _ (by first | rfl | exact hkk) rfl rfl _ (by simp) rfl rfl (hown4.alloc _) (by omega) (by simp; omega) ?_; intro A6 c6 w6 hown6' hb6'; have hown6 := Lib.hid hown6'; have hb6 := Lib.hid hb6'; clear hown6' hb6')
          go_roundw
          case rel => exact ⟨out ++ [⟨d3.toNat, 0, []⟩], r1, A6, mo + 1, c6, A3, (nr - 1), (cr - 1), rfl, rfl, hown6.out, hy4.below ((Below.trans ((Below.refl w.heap.size w4).alloc hs4 _) hb6.out).mono hB), by omega, by omega, by omega, Lib.hid (InvK.step hI.out (by rw [HLEN.out]; omega) HST.out), Below.trans (hb4.alloc hs4 _) hb6.out⟩
          case measure => simp [lenOf]; omega

      · have he : Hid (rest = [] ∨ 3 < out.length) := by
          have h1 := HLEN.out
          have h2 := HOL.out
          rcases Nat.eq_zero_or_pos nr with h | h
          · left; exact List.eq_nil_of_length_eq_zero (by omega)
          · right; omega
        have HX := he
        have hvals := hown.vals (hI.out).1
        have hgo' : ¬ ((0 : Int) < (nr : Int) ∧ (mo : Int) ≤ 3) := by omega
        clear hgo
        have EXIT : True := trivial
        go_wp2_with fail
        all_goals
          refine (key_any Ao mo co out _ wr (by omega) hvals (Nat.le_refl _)).mono ?_
          rintro e w4 (⟨hbad, rfl, hb4⟩ | ⟨hok, A4, n4, c4, rfl, hown4, hn4, hb4⟩)
          · have hb4' := hbr.trans (hb4.mono hsr)
            have HNO := Lib.hid (InvK.wrong hI.out hbad he.out)
            have hne : ¬ ((rightF out 3 : Nat) : Int) = 0 := by omega
            clear hbad hI
            generalize rightF out 3 = R at *
            go_wp2_with fail
            go_step3
            go_wp2_with fail
            simp only [Exit.jump]
            go_ret2
            exact .inr ⟨HNO.out, rfl, hb4'⟩
          · have hb4' := hbr.trans (hb4.mono hsr)
            obtain ⟨hgood, hlen8⟩ := InvK.good hI.out hok
            have HG := Lib.hid hgood
            clear hgood hok
            go_wp2_with fail
            refine (equal_any A4 n4 c4 _ _ A n c _ B w4 hown4.byt ((HR0.out.below (hb4'.mono hB)))).mono ?_
            rintro e w5 ⟨rfl, rfl⟩
            by_cases he : keyF out = b
            · have he2 : (keyF out == b) = true := by rw [he]; simp
              rw [he2]
              have HE := Lib.hid he
              clear he he2
              go_wp2_with fail
              simp only [Exit.jump]
              go_ret2
              exact .inl ⟨out, Ao, mo, co, HG.out, hlen8, HE.out, rfl, (hown.below hb4), hb4'⟩
            · have he2 : (keyF out == b) = false := by simpa using he
              rw [he2]
              have HNO := Lib.hid (InvK.other hI.out he HX.out)
              clear he he2
              go_wp2_with fail
              go_step3
              go_wp2_with fail
              simp only [Exit.jump]
              go_ret2
              exact .inr ⟨HNO.out, rfl, hb4'⟩
  · rintro a' w' ⟨hsz, hdf, hb, hno⟩
    obtain ⟨u, rfl⟩ := frame_range 97 a' hsz hdf
    rw [frame97]
    clear hsz hdf
    have HNO := Lib.hid hno
    clear hno
    go_wp2_with fail
    simp only [Exit.jump]
    go_ret2
    exact .inr ⟨HNO.out, rfl, hb⟩
end Go.Proofs.Ytjmpolabpgmjpaa
