/-
  The walks of After (the program's and the document's) and of bytes.Clone.
-/
import Derived.Test.YtjmpolabpgmjpaaRows
import Derived.Test.YtjmpolabpgmjpaaNum
import Derived.Test.YtjmpolabpgmjpaaMake
import Derived.WalkKit
import Derived.LoopTactic
import Derived.WalkSpells
import Derived.WalkLawsBesides
import Derived.Lib.Hide
namespace Go.Proofs.Ytjmpolabpgmjpaa
open Go.RowKit

theorem bty : ByteTy Try.prog 25 5 := ⟨Try.underlying25, by
  obtain ⟨i0, hi, hz0, hz1, hz2⟩ := info_parts (show (Try.prog.info? 5).map (fun i => (i.zero, i.size, i.bytes)) = some (some (.int .u8 0), 1, 1) by kernel_rfl)
  exact ⟨i0, hi, hz0, hz1, hz2⟩⟩

/-- How many of the first k bytes stay where the FFs at their end are struck. -/
def aft (l : List UInt8) : Nat → Nat
  | 0 => 0
  | k + 1 => if l[k]? = some 255 then aft l k else k + 1
theorem aft_le (l : List UInt8) (k : Nat) : aft l k ≤ k := by
  induction k with
  | zero => exact Nat.le_refl _
  | succ k ih =>
    simp only [aft]
    split <;> omega
def afterN (l : List UInt8) : Nat := aft l l.length
def afterB (l : List UInt8) : List UInt8 := (l.take (afterN l)).set (afterN l - 1) ((l[afterN l - 1]?.getD 0) + 1)

theorem inc8 (c : UInt8) : (n8 c + 1) % 256 = n8 (c + 1) := by
  unfold n8
  rw [UInt8.toNat_add]
  have : (1 : UInt8).toNat = 1 := by decide
  rw [this]
  omega

theorem clone_any (A : Option Addr) (n c : Nat) (l : List UInt8) (B : Nat) (w : World) (h0 : 0 < n) (hn : n ≤ 549755813888) (hr : Byt w B A n l) (hB : B ≤ w.heap.size) :
    Calls Try.prog 32 #[.slice A n c] w fun e w' => ∃ A' c', e = .returned (.slice A' n c') ∧ Own w' w.heap.size 5 A' n c' l ∧ Below w.heap.size w w' := by
  obtain ⟨b, off, rfl, _, _⟩ := hr.2 h0
  have hnil := fun W : World => Lib.run_eql_slice_nil (P := Try.prog) W 25 5 (some ⟨b, off, none⟩) n c 0 0 Try.underlying25
  have hempty : Own (w.alloc (.cells #[] 5)) w.heap.size 5 (some ⟨w.heap.size, 0, none⟩) 0 0 [] :=
    World.ownsRow_lit (base := w.heap.size) (e := 5) (size := 1) w #[] 0 (Nat.le_refl _) (Nat.zero_le _) rfl
  have hr2 := (hr.more hB).alloc (Nat.le_refl _) (.cells #[] 5)
  go_enter Try.func32, Try.ntmps32
  go_wp2_with (at_builtin; refine wpList_append_byt bty _ rfl (.tmp 5) (.tmp 6) rfl rfl rfl hempty hr2 (by omega) (by simp) ?_; intro A2 c2 w2 hown2 hb2)
  go_ret
  simp only [Nat.zero_add, List.nil_append] at hown2 ⊢
  exact ⟨A2, c2, rfl, hown2, ((Below.refl _ _).alloc (Nat.le_refl _) _).trans hb2⟩

/-- What After answers. -/
def AfterPost (l : List UInt8) (w : World) (e : Ending) (w' : World) : Prop :=
  (afterN l = 0 ∧ e = .returned (.tuple #[.slice none 0 0, .bool false]) ∧ Below w.heap.size w w') ∨
  (0 < afterN l ∧ ∃ A c, e = .returned (.tuple #[.slice A (afterN l) c, .bool true]) ∧ Own w' w.heap.size 5 A (afterN l) c (afterB l) ∧ Below w.heap.size w w')

set_option maxHeartbeats 800000 in
theorem after_any (A : Option Addr) (n c : Nat) (l : List UInt8) (B : Nat) (w : World) (hn : n ≤ 549755813888) (hnc : n ≤ c) (hr : Byt w B A n l) (hB : B ≤ w.heap.size) :
    Calls Try.prog 20 #[.slice A n c] w (AfterPost l w) := by
  go_enter Try.func20, Try.ntmps20
  go_wp2_with fail
  go_loop [4] (fun v => ∃ k : Nat, k ≤ n ∧ v = .int .i64 k ∧ aft l k = afterN l) (fun v => (intOf v).toNat)
  case atStart => exact ⟨n, Nat.le_refl _, rfl, by unfold afterN; rw [hr.len]⟩
  case round =>
    obtain ⟨k, hk, rfl, hak⟩ := hrel
    by_cases h0 : k = 0
    · subst h0
      have hz : afterN l = 0 := hak.symm
      have HZ := Lib.hid hz
      clear hak hz
      go_wp2_with fail
      go_ret2
      exact .inl ⟨HZ.out, rfl, Below.refl _ _⟩
    · obtain ⟨j, rfl⟩ : ∃ j, k = j + 1 := ⟨k - 1, by omega⟩
      obtain ⟨b, off, d, rfl, hb, hd, hcell⟩ := hr.at_ (show j < n by omega)
      have p1 : (0 : Int) < ((j + 1 : Nat) : Int) := by omega
      have p2 : (j : Int) < (n : Int) := by omega
      have e1 : ((j + 1 : Nat) : Int) - 1 = (j : Int) := by omega
      by_cases h255 : d = 255
      · have hn255 : (n8 d == 255) = true := by rw [h255]; rfl
        have hstep : aft l (j + 1) = aft l j := by simp only [aft]; rw [hd, h255, if_pos rfl]
        have HST := Lib.hid (hstep.symm.trans hak)
        have H255 := Lib.hid h255
        clear h255 hstep hak hd
        go_wp2_with fail
        go_round
        case rel => exact ⟨j, by omega, rfl, HST.out⟩
        case measure => simp [intOf]
      · have hn255 : (n8 d == 255) = false := by rw [beq_eq_false_iff_ne]; exact fun h => h255 (n8_inj (h.trans (by rfl)))
        have hstep : aft l (j + 1) = j + 1 := by simp only [aft]; rw [hd, if_neg (fun h => h255 (by injection h))]
        have HN := Lib.hid (hak.symm.trans hstep)
        have HD := Lib.hid hd
        have rC := hr.mid (i := 0) (j := j + 1) (A' := some ⟨b, off, none⟩) (by omega) hk (fun _ _ _ h => h)
        simp only [Nat.sub_zero, List.drop_zero] at rC
        have hC := Lib.hid (clone_any (some ⟨b, off, none⟩) (j + 1) (j + 1) _ B w (by omega) (by omega) rC hB)
        clear hstep hak hd h255
        have p3 : ((j + 1 : Nat) : Int) ≤ (c : Int) := by omega
        have p4 : j + 1 ≤ c := by omega
        go_wp2_with fail
        refine hC.out.mono ?_
        rintro e w2 ⟨A2, c2, rfl, hown, hb2⟩
        obtain ⟨g, cap, hv, hgb, hgl⟩ := World.ownsRow.form hown (by omega)
        have hA : A2 = some ⟨g, 0, none⟩ := by injection hv
        subst hA
        have hlen := hown.len
        have hdc : w2.cell? ⟨g, j, none⟩ = some (.int .u8 (n8 d)) := by
          rw [World.ownsRow.cellAt hown j (by omega), List.getElem?_map, List.getElem?_take, if_pos (by omega), HD.out]
          rfl
        have hdf := World.ownsRow.frozenAt hown j
        have hinc := inc8 d
        have hown2 := hown.stored j (d + 1)
        have hp : 0 < afterN l := by rw [HN.out]; omega
        have hBB : afterB l = (l.take (j + 1)).set j (d + 1) := by
          unfold afterB
          rw [HN.out, Nat.add_sub_cancel, HD.out]
          rfl
        have HBB := Lib.hid hBB
        have HP := Lib.hid hp
        clear hlen hv hBB hp hC
        go_wp2_with fail
        go_ret2
        refine .inr ⟨HP.out, some ⟨g, 0, none⟩, c2, ?_, ?_, hb2.setCell hgb _⟩
        · rw [HN.out]; rfl
        · rw [HN.out, HBB.out]
          exact hown2

set_option maxHeartbeats 800000 in
theorem rafter_any (A : Option Addr) (n c : Nat) (l : List UInt8) (B : Nat) (w : World) (hn : n ≤ 549755813888) (hnc : n ≤ c) (hr : Byt w B A n l) (hB : B ≤ w.heap.size) :
    Calls Try.prog 26 #[.slice A n c] w (AfterPost l w) := by
  go_enter Try.func26, Try.ntmps26
  go_wp2_with fail
  go_loop [4] (fun v => ∃ k : Nat, k ≤ n ∧ v = .int .i64 k ∧ aft l k = afterN l) (fun v => (intOf v).toNat)
  case atStart => exact ⟨n, Nat.le_refl _, rfl, by unfold afterN; rw [hr.len]⟩
  case round =>
    obtain ⟨k, hk, rfl, hak⟩ := hrel
    by_cases h0 : k = 0
    · subst h0
      have hz : afterN l = 0 := hak.symm
      have HZ := Lib.hid hz
      clear hak hz
      go_wp2_with fail
      go_ret2
      exact .inl ⟨HZ.out, rfl, Below.refl _ _⟩
    · obtain ⟨j, rfl⟩ : ∃ j, k = j + 1 := ⟨k - 1, by omega⟩
      obtain ⟨b, off, d, rfl, hb, hd, hcell⟩ := hr.at_ (show j < n by omega)
      have p1 : (0 : Int) < ((j + 1 : Nat) : Int) := by omega
      have p2 : (j : Int) < (n : Int) := by omega
      have e1 : ((j + 1 : Nat) : Int) - 1 = (j : Int) := by omega
      by_cases h255 : d = 255
      · have hn255 : (n8 d == 255) = true := by rw [h255]; rfl
        have hstep : aft l (j + 1) = aft l j := by simp only [aft]; rw [hd, h255, if_pos rfl]
        have HST := Lib.hid (hstep.symm.trans hak)
        have H255 := Lib.hid h255
        clear h255 hstep hak hd
        go_wp2_with fail
        go_round
        case rel => exact ⟨j, by omega, rfl, HST.out⟩
        case measure => simp [intOf]
      · have hn255 : (n8 d == 255) = false := by rw [beq_eq_false_iff_ne]; exact fun h => h255 (n8_inj (h.trans (by rfl)))
        have hstep : aft l (j + 1) = j + 1 := by simp only [aft]; rw [hd, if_neg (fun h => h255 (by injection h))]
        have HN := Lib.hid (hak.symm.trans hstep)
        have HD := Lib.hid hd
        have rC := (hr.more hB).mid (i := 0) (j := j + 1) (A' := some ⟨b, off, none⟩) (by omega) hk (fun _ _ _ h => h)
        simp only [Nat.sub_zero, List.drop_zero] at rC
        clear hstep hak hd h255
        have p3 : ((j + 1 : Nat) : Int) ≤ (c : Int) := by omega
        have p4 : j + 1 ≤ c := by omega
        go_wp2_with (at_builtin; refine wpList_append_byt bty _ rfl (.const (.slice none 0 0)) (.tmp 24) rfl rfl rfl (Own.nil_ w w.heap.size 5) rC (by omega) (Nat.le_refl _) ?_; intro A2 c2 w2 hown hb2; simp only [Nat.zero_add, List.nil_append] at hown; obtain ⟨g, cap, hv, hgb, hgl⟩ := World.ownsRow.form hown (by omega); have hA : A2 = some ⟨g, 0, none⟩ := (by injection hv); clear hv; subst hA; have hdc : w2.cell? ⟨g, j, none⟩ = some (.int .u8 (n8 d)) := (by rw [World.ownsRow.cellAt hown j (by omega), List.getElem?_map, List.getElem?_take, if_pos (by omega), HD.out]; rfl); have hdf := World.ownsRow.frozenAt hown j; have hinc := inc8 d)
        have hown2 := hown.stored j (d + 1)
        have hp : 0 < afterN l := by rw [HN.out]; omega
        have hBB : afterB l = (l.take (j + 1)).set j (d + 1) := by
          unfold afterB
          rw [HN.out, Nat.add_sub_cancel, HD.out]
          rfl
        have HBB := Lib.hid hBB
        have HP := Lib.hid hp
        clear hBB hp
        go_ret2
        refine .inr ⟨HP.out, some ⟨g, 0, none⟩, c2, ?_, ?_, hb2.setCell hgb _⟩
        · rw [HN.out]; rfl
        · rw [HN.out, HBB.out]
          exact hown2
end Go.Proofs.Ytjmpolabpgmjpaa
