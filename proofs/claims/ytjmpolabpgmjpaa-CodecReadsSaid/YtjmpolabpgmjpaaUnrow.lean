/-
  The walk of codec.Unrow.
-/
import Derived.Test.YtjmpolabpgmjpaaCut
import Derived.Test.YtjmpolabpgmjpaaVmem
import Derived.Test.YtjmpolabpgmjpaaReadLaw
import Derived.ScopeJumps
import Derived.WalkMore
namespace Go.Proofs.Ytjmpolabpgmjpaa
open Go.RowKit

def UnrowPost (b : List UInt8) (w : World) (e : Ending) (w' : World) : Prop :=
  (∃ vs A n c, (∀ v ∈ vs, okV v) ∧ vs.length ≤ 8 ∧ rowF vs = b ∧ e = .returned (.tuple #[.slice A n c, .int .i64 0]) ∧ OwnV w' w.heap.size A n c vs ∧ Below w.heap.size w w') ∨
  (NoRow b ∧ e = .returned (.tuple #[.slice none 0 0, .int .i64 70]) ∧ Below w.heap.size w w')

theorem wrap64_byte (d : UInt8) : wrap64 (d.toNat : Int) = d.toNat := by
  have h : d.toNat < 256 := d.toNat_lt
  unfold wrap64
  omega
theorem wrap64_n8 (d : UInt8) : wrap64 (n8 d) = n8 d := wrap64_byte d
theorem wrap64_n64 (x : BitVec 64) : wrap64 (n64 x) = x.toInt := by
  have h := x.isLt
  rw [BitVec.toInt_eq_toNat_cond]
  unfold wrap64 n64
  split <;> omega
theorem frame_range (n : Nat) (a : Act) (hs : a.tmps.size = n) (hd : a.defers = []) : ∃ u : Nat → Value, a = { tmps := ((List.range n).map u).toArray, defers := [] } := by
  refine ⟨fun i => a.tmps.getD i undef, ?_⟩
  obtain ⟨t, df⟩ := a
  simp only at hs hd
  subst hs hd
  congr 1
  apply Array.ext
  · simp
  · intro i h1 h2
    simp [Array.getD, h1]
theorem frame113 (u : Nat → Value) : ((List.range 113).map u).toArray = #[u 0, u 1, u 2, u 3, u 4, u 5, u 6, u 7, u 8, u 9, u 10, u 11, u 12, u 13, u 14, u 15, u 16, u 17, u 18, u 19, u 20, u 21, u 22, u 23, u 24, u 25, u 26, u 27, u 28, u 29, u 30, u 31, u 32, u 33, u 34, u 35, u 36, u 37, u 38, u 39, u 40, u 41, u 42, u 43, u 44, u 45, u 46, u 47, u 48, u 49, u 50, u 51, u 52, u 53, u 54, u 55, u 56, u 57, u 58, u 59, u 60, u 61, u 62, u 63, u 64, u 65, u 66, u 67, u 68, u 69, u 70, u 71, u 72, u 73, u 74, u 75, u 76, u 77, u 78, u 79, u 80, u 81, u 82, u 83, u 84, u 85, u 86, u 87, u 88, u 89, u 90, u 91, u 92, u 93, u 94, u 95, u 96, u 97, u 98, u 99, u 100, u 101, u 102, u 103, u 104, u 105, u 106, u 107, u 108, u 109, u 110, u 111, u 112] := rfl

/-- What holds where Unrow jumps to its end. -/
def UrJump (b : List UInt8) (w : World) (a' : Act) (w' : World) : Prop :=
  a'.tmps.size = 113 ∧ a'.defers = [] ∧ Below w.heap.size w w' ∧ NoRow b

set_option maxRecDepth 20000 in
set_option maxHeartbeats 6400000 in
theorem unrow_any (A : Option Addr) (n c : Nat) (b : List UInt8) (B : Nat) (w : World) (hn : n ≤ 1099511627776) (hnc : n ≤ c) (hr : Byt w B A n b) (hB : B ≤ w.heap.size) :
    Calls Try.prog 21 #[.slice A n c] w (UnrowPost b w) := by
  have hl := hr.len
  go_enter Try.func21, Try.ntmps21
  go_wp2_with fail
  refine wp_scope_jumps 0 (UrJump b w) (fun _ _ => 0) rfl ?_ ?_
  · by_cases h1 : n = 0
    · have hb : b = [] := List.eq_nil_of_length_eq_zero (by omega)
      have hno : NoRow b := by
        intro vs _ _ h
        rw [hb] at h
        cases h
      have HNO := Lib.hid hno
      clear hno hl hb hr
      subst h1
      go_wp2_with fail
      refine (cut_no A 0 c 1 _ rfl w (by omega)).mono ?_
      rintro e w2 ⟨rfl, rfl⟩
      go_wp2_with fail
      go_step3
      exact ⟨rfl, rfl, rfl, Below.refl _ _, HNO.out⟩
    · obtain ⟨c0, b', rfl⟩ : ∃ c0 b', b = c0 :: b' := by
        cases b with
        | nil => simp at hl; omega
        | cons c0 b' => exact ⟨c0, b', rfl⟩
      obtain ⟨A1, A2, hcut, hcall⟩ := cut_yes A n c 1 1 rfl (by omega) hnc
      obtain ⟨hy1, hy2⟩ := hcut w B _ hr
      obtain ⟨b1, o1, d, rfl, _, hd, hcell⟩ := hy1.at_ (k := 0) (by omega)
      obtain rfl : d = c0 := by simpa using hd.symm
      have hcell' : w.cell? ⟨b1, o1, none⟩ = some (.int .u8 (n8 d)) := by simpa using hcell
      simp only [List.drop_succ_cons, List.drop_zero] at hy2
      have hinv := Lib.hid (InvR.start d b')
      have hn8 : n8 d = (d.toNat : Int) := rfl
      have HCALL := Lib.hid hcall
      have hr0 := hr
      clear hcut hcall hd hcell hl hr
      go_wp2_with fail
      refine (HCALL.out w).mono ?_
      rintro e w2 ⟨rfl, m2, rfl⟩
      have hcell2 : (w.drewN m2).cell? ⟨b1, o1, none⟩ = some (.int .u8 (n8 d)) := hcell'
      go_wp2_with fail
      go_loopw [4, 5, 8] (fun o r iv wr => ∃ (k : Nat) (out : List Val) (rest : List UInt8) (Ao : Option Addr) (mo co : Nat) (Ar : Option Addr) (nr cr : Nat), iv = .int .i64 (k : Int) ∧ o = .slice Ao mo co ∧ r = .slice Ar nr cr ∧ OwnV wr w.heap.size Ao mo co out ∧ Byt wr B Ar nr rest ∧ nr ≤ cr ∧ nr ≤ n ∧ mo + k ≤ 255 ∧ Hid (InvR (d :: b') out k rest) ∧ Below w.heap.size w wr) (fun _ _ iv _ => (intOf iv).toNat)
      case atStart =>
        exact ⟨d.toNat, [], b', none, 0, 0, A2, n - 1, c - 1, congrArg _ (wrap64_byte d), rfl, rfl, OwnV.nil_ _ _, hy2.drewN m2, by omega, by omega, by have : d.toNat < 256 := d.toNat_lt; omega, hinv, below_drewN (Below.refl _ _) _⟩
      case round =>
        obtain ⟨k, out, rest, Ao, mo, co, Ar, nr, cr, rfl, rfl, rfl, hown, hy, hnr, hnn, hmk, hI, hbr⟩ := hrel
        have hsr := hbr.size
        clear hy1 hy2 hcell' hcell2 hinv hn8 HCALL
        by_cases hk0 : k = 0
        · subst hk0
          have hlen := hown.len
          have hvals := hown.vals (hI.out).1
          go_wp2_with fail
          refine (row_any Ao mo co out _ wr (by omega) hvals (Nat.le_refl _)).mono ?_
          rintro e w4 (⟨hbad, rfl, hb4⟩ | ⟨hok, A4, n4, c4, rfl, hown4, hn4, hb4⟩)
          · have hb4' := hbr.trans (hb4.mono hsr)
            have HNO := Lib.hid (InvR.wrong hI.out hbad)
            have hne : ¬ ((rightF out 8 : Nat) : Int) = 0 := by omega
            clear hbad hI
            generalize rightF out 8 = R at *
            go_wp2_with fail
            go_step3
            go_wp2_with fail
            simp only [Exit.jump]
            go_ret2
            exact .inr ⟨HNO.out, rfl, hb4'⟩
          · have hb4' := hbr.trans (hb4.mono hsr)
            obtain ⟨hgood, hlen8⟩ := InvR.good hI.out hok
            have HG := Lib.hid hgood
            clear hgood hok
            go_wp2_with fail
            refine (equal_any A4 n4 c4 _ _ A n c _ B w4 hown4.byt ((hr0.below (hb4'.mono hB)))).mono ?_
            rintro e w5 ⟨rfl, rfl⟩
            by_cases he : rowF out = d :: b'
            · have he2 : (rowF out == d :: b') = true := by rw [he]; simp
              rw [he2]
              have HE := Lib.hid he
              clear he he2
              go_wp2_with fail
              simp only [Exit.jump]
              go_ret2
              exact .inl ⟨out, Ao, mo, co, HG.out, hlen8, HE.out, rfl, (hown.below hb4), hb4'⟩
            · have he2 : (rowF out == d :: b') = false := by simpa using he
              rw [he2]
              have HNO := Lib.hid (InvR.other hI.out he)
              clear he he2
              go_wp2_with fail
              go_step3
              go_wp2_with fail
              simp only [Exit.jump]
              go_ret2
              exact .inr ⟨HNO.out, rfl, hb4'⟩
        · obtain ⟨j, rfl⟩ : ∃ j, k = j + 1 := ⟨k - 1, by omega⟩
          have hblk := Lib.hid hown.blk
          have hfar : Hid (∀ x, Ao = some x → x.block ≠ wr.heap.size) := fun x hx => by have := (hblk.out x hx).2; omega
          have p0 : (0 : Int) < ((j + 1 : Nat) : Int) := by omega
          clear hr0
          by_cases hz : nr = 0
          · subst hz
            have hrest : rest = [] := List.eq_nil_of_length_eq_zero hy.len
            have HNO := Lib.hid (InvR.bad hI.out (by rw [hrest]; rfl))
            clear hrest hI
            go_wp2_with fail
            refine (cut_no Ar 0 cr 1 _ rfl _ (by omega)).mono ?_
            rintro e w4 ⟨rfl, rfl⟩
            go_wp2_with fail
            go_step3
            exact ⟨rfl, rfl, rfl, hbr.alloc hsr _, HNO.out⟩
          obtain ⟨c1, r1, rfl⟩ : ∃ c1 r1, rest = c1 :: r1 := by
            cases rest with
            | nil => have := hy.len; simp at this; omega
            | cons c1 r1 => exact ⟨c1, r1, rfl⟩
          obtain ⟨A1, A3, hcut, hcall⟩ := cut_yes Ar nr cr 1 1 rfl (by omega) hnr
          obtain ⟨hy1, hy3⟩ := hcut wr B _ hy
          obtain ⟨b3, o3, d3, rfl, hb3, hd, hcell⟩ := hy1.at_ (k := 0) (by omega)
          obtain rfl : d3 = c1 := by simpa using hd.symm
          have hcA : ∀ X m, ((wr.alloc X).drewN m).cell? ⟨b3, o3, none⟩ = some (.int .u8 (n8 d3)) := fun X m => ((hy1.alloc (by omega) X).drewN m).2 (by omega) |> fun ⟨b, off, e, _, h⟩ => by
            injection e with e; injection e with e1 e2; subst e1 e2
            simpa using h 0 d3 (by simp)
          simp only [List.drop_succ_cons, List.drop_zero] at hy3
          have HCALL := Lib.hid hcall
          clear hcut hcall hd hcell hy1
          by_cases hk1 : d3.toNat = 1
          · have hn8 : n8 d3 = 1 := by unfold n8; omega
            go_wp2_with fail
            refine (HCALL.out _).mono ?_
            rintro e w4 ⟨rfl, m4, rfl⟩
            go_wp2_with fail
            by_cases hz1 : nr - 1 = 0
            · have hrest : r1 = [] := List.eq_nil_of_length_eq_zero (by rw [hy3.len, hz1])
              have HNO := Lib.hid (InvR.bad hI.out (by rw [hrest]; simp only [rowStep]; rw [if_pos hk1]))
              clear hrest hI
              refine (cut_no A3 (nr - 1) (cr - 1) 1 _ rfl _ (by omega)).mono ?_
              rintro e w5 ⟨rfl, rfl⟩
              go_wp2_with fail
              go_step3
              exact ⟨rfl, rfl, rfl, (below_drewN (hbr.alloc hsr _) _).setCell hsr _, HNO.out⟩
            obtain ⟨d4, r2, rfl⟩ : ∃ d4 r2, r1 = d4 :: r2 := by
              cases r1 with
              | nil => have := hy3.len; simp at this; omega
              | cons d4 r2 => exact ⟨d4, r2, rfl⟩
            obtain ⟨A1, A5, hcut, hcall⟩ := cut_yes A3 (nr - 1) (cr - 1) 1 1 rfl (by omega) (by omega)
            obtain ⟨hy1, hy5⟩ := hcut wr B _ hy3
            obtain ⟨b4, o4, d5, rfl, hb4, hd, hcell⟩ := hy1.at_ (k := 0) (by omega)
            obtain rfl : d5 = d4 := by simpa using hd.symm
            have hcB : ∀ X m p u m', w.heap.size ≤ p.block → ((((wr.alloc X).drewN m).setCell p u).drewN m').cell? ⟨b4, o4, none⟩ = some (.int .u8 (n8 d5)) := fun X m p u m' hp => ((((hy1.alloc (by omega) X).drewN m).setCell (p := p) (by omega) u).drewN m').2 (by omega) |> fun ⟨b, off, e, _, h⟩ => by
              injection e with e; injection e with e1 e2; subst e1 e2
              simpa using h 0 d5 (by simp)
            simp only [List.drop_succ_cons, List.drop_zero] at hy5
            have HCB := Lib.hid hcB
            have hcB2 := fun X m u m' => HCB.out X m ⟨wr.heap.size, 0, none⟩ u m' hsr
            have HCALL2 := Lib.hid hcall
            clear hcut hcall hd hcell hy1 hcB hcA
            refine (HCALL2.out _).mono ?_
            rintro e w5 ⟨rfl, m5, rfl⟩
            have HST := Lib.hid (show rowStep (d3 :: d5 :: r2) = some (⟨1, d5.toNat, []⟩, r2) by simp only [rowStep]; rw [if_pos hk1])
            clear hk1
            go_wp2_with (at_builtin; refine wpList_append_val _ rfl (.tmp 96) (.tmp 98) rfl ⟨1, d5.toNat, []⟩ _ _ _ (by first | rfl | exact hkk) (wrap64_byte d5) rfl _ (by simp) rfl rfl (((((hown.alloc _).drewN _).setCell hfar.out _).drewN _).setCell hfar.out _) (by omega) (by simp; omega) ?_; intro A6 c6 w6 hown6' hb6'; have hown6 := Lib.hid hown6'; have hb6 := Lib.hid hb6'; clear hown6' hb6')
            go_roundw
            case rel => exact ⟨j, out ++ [⟨1, d5.toNat, []⟩], r2, A6, mo + 1, c6, A5, (nr - 1 - 1), (cr - 1 - 1), by congr 1 <;> omega, rfl, rfl, hown6.out, hy5.below ((((below_drewN ((below_drewN ((Below.refl w.heap.size wr).alloc hsr _) _).setCell hsr _) _).setCell hsr _).trans hb6.out).mono hB), by omega, by omega, by omega, Lib.hid (InvR.step hI.out HST.out), ((below_drewN ((below_drewN (hbr.alloc hsr _) _).setCell hsr _) _).setCell hsr _).trans hb6.out⟩
            case measure => simp [intOf]
          by_cases hk2 : d3.toNat = 2
          · have hn8 : n8 d3 = 2 := by unfold n8; omega
            go_wp2_with fail
            refine (HCALL.out _).mono ?_
            rintro e w4 ⟨rfl, m4, rfl⟩
            go_wp2_with fail
            by_cases hz1 : nr - 1 < 8
            · have HNO := Lib.hid (InvR.bad hI.out (by simp only [rowStep]; rw [if_neg hk1, if_pos hk2, if_pos (by rw [hy3.len]; exact hz1)]))
              clear hI
              refine (cut_no A3 (nr - 1) (cr - 1) 8 _ rfl _ hz1).mono ?_
              rintro e w5 ⟨rfl, rfl⟩
              go_wp2_with fail
              go_step3
              exact ⟨rfl, rfl, rfl, (below_drewN (hbr.alloc hsr _) _).setCell hsr _, HNO.out⟩
            obtain ⟨A4, A5, hcut, hcall⟩ := cut_yes A3 (nr - 1) (cr - 1) 8 8 rfl (by omega) (by omega)
            obtain ⟨hy4, hy5⟩ := hcut wr B _ hy3
            have HCALL2 := Lib.hid hcall
            have HST := Lib.hid (show rowStep (d3 :: r1) = some (⟨2, (deN (r1.take 8)).toInt, []⟩, r1.drop 8) by simp only [rowStep]; rw [if_neg hk1, if_pos hk2, if_neg (by rw [hy3.len]; exact hz1)])
            clear hk1 hk2 hcut hcall hcA
            refine (HCALL2.out _).mono ?_
            rintro e w5 ⟨rfl, m5, rfl⟩
            go_wp2_with fail
            refine (unlittle_any A4 8 8 (r1.take 8) B _ (by omega) ((((hy4.alloc (by omega) _).drewN _).setCell (p := ⟨wr.heap.size, 0, none⟩) (by simp; omega) _).drewN _)).mono ?_
            rintro e w6 ⟨rfl, rfl⟩
            have HM := Lib.hid (wrap64_n64 (deN (r1.take 8)))
            generalize deN (r1.take 8) = x64 at *
            go_wp2_with (at_builtin; refine wpList_append_val _ rfl (.tmp 96) (.tmp 98) rfl ⟨2, x64.toInt, []⟩ _ _ _ (by first | rfl | exact hkk) HM.out rfl _ (by simp) rfl rfl (((((hown.alloc _).drewN _).setCell hfar.out _).drewN _).setCell hfar.out _) (by omega) (by simp; omega) ?_; intro A6 c6 w6 hown6' hb6'; have hown6 := Lib.hid hown6'; have hb6 := Lib.hid hb6'; clear hown6' hb6')
            go_roundw
            case rel => exact ⟨j, out ++ [⟨2, x64.toInt, []⟩], (r1.drop 8), A6, mo + 1, c6, A5, (nr - 1 - 8), (cr - 1 - 8), by congr 1 <;> omega, rfl, rfl, hown6.out, hy5.below ((((below_drewN ((below_drewN ((Below.refl w.heap.size wr).alloc hsr _) _).setCell hsr _) _).setCell hsr _).trans hb6.out).mono hB), by omega, by omega, by omega, Lib.hid (InvR.step hI.out HST.out), ((below_drewN ((below_drewN (hbr.alloc hsr _) _).setCell hsr _) _).setCell hsr _).trans hb6.out⟩
            case measure => simp [intOf]
          by_cases hk3 : d3.toNat = 3
          · have hn8 : n8 d3 = 3 := by unfold n8; omega
            go_wp2_with fail
            refine (HCALL.out _).mono ?_
            rintro e w4 ⟨rfl, m4, rfl⟩
            go_wp2_with fail
            by_cases hz1 : nr - 1 = 0
            · have hrest : r1 = [] := List.eq_nil_of_length_eq_zero (by rw [hy3.len, hz1])
              have HNO := Lib.hid (InvR.bad hI.out (by rw [hrest]; simp only [rowStep]; rw [if_neg hk1, if_neg hk2, if_pos hk3]))
              clear hrest hI
              refine (cut_no A3 (nr - 1) (cr - 1) 1 _ rfl _ (by omega)).mono ?_
              rintro e w5 ⟨rfl, rfl⟩
              go_wp2_with fail
              go_step3
              exact ⟨rfl, rfl, rfl, (below_drewN (hbr.alloc hsr _) _).setCell hsr _, HNO.out⟩
            obtain ⟨d4, r2, rfl⟩ : ∃ d4 r2, r1 = d4 :: r2 := by
              cases r1 with
              | nil => have := hy3.len; simp at this; omega
              | cons d4 r2 => exact ⟨d4, r2, rfl⟩
            obtain ⟨A1, A5, hcut, hcall⟩ := cut_yes A3 (nr - 1) (cr - 1) 1 1 rfl (by omega) (by omega)
            obtain ⟨hy1, hy5⟩ := hcut wr B _ hy3
            obtain ⟨b4, o4, d5, rfl, hb4, hd, hcell⟩ := hy1.at_ (k := 0) (by omega)
            obtain rfl : d5 = d4 := by simpa using hd.symm
            have hcB : ∀ X m p u m', w.heap.size ≤ p.block → ((((wr.alloc X).drewN m).setCell p u).drewN m').cell? ⟨b4, o4, none⟩ = some (.int .u8 (n8 d5)) := fun X m p u m' hp => ((((hy1.alloc (by omega) X).drewN m).setCell (p := p) (by omega) u).drewN m').2 (by omega) |> fun ⟨b, off, e, _, h⟩ => by
              injection e with e; injection e with e1 e2; subst e1 e2
              simpa using h 0 d5 (by simp)
            simp only [List.drop_succ_cons, List.drop_zero] at hy5
            have hcB2 := fun X m u m' => hcB X m ⟨wr.heap.size, 0, none⟩ u m' hsr
            have HCALL2 := Lib.hid hcall
            clear hcut hcall hd hcell hy1 hcB hcA
            refine (HCALL2.out _).mono ?_
            rintro e w5 ⟨rfl, m5, rfl⟩
            go_wp2_with fail
            by_cases hz2 : nr - 1 - 1 < d5.toNat
            · have HNO := Lib.hid (InvR.bad hI.out (by simp only [rowStep]; rw [if_neg hk1, if_neg hk2, if_pos hk3, if_pos (by rw [hy5.len]; exact hz2)]))
              clear hI
              refine (cut_no A5 (nr - 1 - 1) (cr - 1 - 1) d5.toNat _ (wrap64_byte d5) _ hz2).mono ?_
              rintro e w6 ⟨rfl, rfl⟩
              have hs0 := fun W : World => run_str_byt (S := 9) Try.underlying25 Try.underlying5 Try.underlying9 W (Byt.nil_ (w := W) (B := 0) none) 0
              go_wp2_with fail
              go_step3
              exact ⟨rfl, rfl, rfl, ((below_drewN ((below_drewN (hbr.alloc hsr _) _).setCell hsr _) _).setCell hsr _), HNO.out⟩
            obtain ⟨A7, A8, hcut, hcall⟩ := cut_yes A5 (nr - 1 - 1) (cr - 1 - 1) d5.toNat _ (wrap64_byte d5) (by omega) (by omega)
            obtain ⟨hy7, hy8⟩ := hcut wr B _ hy5
            have HCALL3 := Lib.hid hcall
            have HST := Lib.hid (show rowStep (d3 :: d5 :: r2) = some (⟨3, 0, r2.take d5.toNat⟩, r2.drop d5.toNat) by simp only [rowStep]; rw [if_neg hk1, if_neg hk2, if_pos hk3, if_neg (by rw [hy5.len]; exact hz2)])
            have hs1 := fun X m u m' m'' => run_str_byt (S := 9) Try.underlying25 Try.underlying5 Try.underlying9 _ (((((hy7.alloc (by omega) X).drewN m).setCell (p := ⟨wr.heap.size, 0, none⟩) (by simp; omega) u).drewN m').drewN m'') d5.toNat
            have hs2 := fun X m u m' => run_str_byt (S := 9) Try.underlying25 Try.underlying5 Try.underlying9 _ ((((hy7.alloc (by omega) X).drewN m).setCell (p := ⟨wr.heap.size, 0, none⟩) (by simp; omega) u).drewN m') d5.toNat
            clear hk1 hk2 hk3 hcut hcall
            refine (HCALL3.out _).mono ?_
            rintro e w6 ⟨rfl, m6, rfl⟩
            go_wp2_with (at_builtin; refine wpList_append_val _ rfl (.tmp 96) (.tmp 98) rfl ⟨3, 0, r2.take d5.toNat⟩ _ _ _ rfl rfl rfl _ (by simp) rfl rfl (by first | exact ((((((hown.alloc _).drewN _).setCell hfar.out _).drewN _).drewN _).setCell hfar.out _) | exact (((((hown.alloc _).drewN _).setCell hfar.out _).drewN _).setCell hfar.out _)) (by omega) (by simp; omega) ?_; intro A6 c6 w6 hown6' hb6'; have hown6 := Lib.hid hown6'; have hb6 := Lib.hid hb6'; clear hown6' hb6')
            go_roundw
            case rel => exact ⟨j, out ++ [⟨3, 0, r2.take d5.toNat⟩], r2.drop d5.toNat, A6, mo + 1, c6, A8, nr - 1 - 1 - d5.toNat, cr - 1 - 1 - d5.toNat, by congr 1 <;> omega, rfl, rfl, hown6.out, hy8.below ((Below.trans (by first | exact (((below_drewN (below_drewN ((below_drewN ((Below.refl w.heap.size wr).alloc hsr _) _).setCell hsr _) _) _).setCell hsr _)) | exact ((below_drewN ((below_drewN ((Below.refl w.heap.size wr).alloc hsr _) _).setCell hsr _) _).setCell hsr _)) hb6.out).mono hB), by omega, by omega, by omega, Lib.hid (InvR.step hI.out HST.out), Below.trans (by first | exact (((below_drewN (below_drewN ((below_drewN (hbr.alloc hsr _) _).setCell hsr _) _) _).setCell hsr _)) | exact ((below_drewN ((below_drewN (hbr.alloc hsr _) _).setCell hsr _) _).setCell hsr _)) hb6.out⟩
            case measure => simp [intOf]
          · have hh1 : ¬ n8 d3 = 1 := by unfold n8; omega
            have hh2 : ¬ n8 d3 = 2 := by unfold n8; omega
            have hh3 : ¬ n8 d3 = 3 := by unfold n8; omega
            have HST := Lib.hid (show rowStep (d3 :: r1) = some (⟨d3.toNat, 0, []⟩, r1) by simp only [rowStep]; rw [if_neg hk1, if_neg hk2, if_neg hk3])
            have hkk := wrap64_byte d3
            have hw := wrap64_n8 d3
            clear hk1 hk2 hk3
            go_wp2_with fail
            refine (HCALL.out _).mono ?_
            rintro e w4 ⟨rfl, m4, rfl⟩
            go_wp2_with (at_builtin; refine wpList_append_val _ rfl (.tmp 96) (.tmp 98) rfl ⟨d3.toNat, 0, []⟩ _ _ _ (by first | rfl | exact hkk) rfl rfl _ (by simp) rfl rfl (((hown.alloc _).drewN _).setCell hfar.out _) (by omega) (by simp; omega) ?_; intro A6 c6 w6 hown6' hb6'; have hown6 := Lib.hid hown6'; have hb6 := Lib.hid hb6'; clear hown6' hb6')
            go_roundw
            case rel => exact ⟨j, out ++ [⟨d3.toNat, 0, []⟩], r1, A6, mo + 1, c6, A3, (nr - 1), (cr - 1), by congr 1 <;> omega, rfl, rfl, hown6.out, hy3.below ((((below_drewN ((Below.refl w.heap.size wr).alloc hsr _) _).setCell hsr _).trans hb6.out).mono hB), by omega, by omega, by omega, Lib.hid (InvR.step hI.out HST.out), ((below_drewN (hbr.alloc hsr _) _).setCell hsr _).trans hb6.out⟩
            case measure => simp [intOf]
  · rintro a' w' ⟨hsz, hdf, hb, hno⟩
    obtain ⟨u, rfl⟩ := frame_range 113 a' hsz hdf
    rw [frame113]
    clear hsz hdf
    have HNO := Lib.hid hno
    clear hno
    go_wp2_with fail
    simp only [Exit.jump]
    go_ret2
    exact .inr ⟨HNO.out, rfl, hb⟩
end Go.Proofs.Ytjmpolabpgmjpaa
