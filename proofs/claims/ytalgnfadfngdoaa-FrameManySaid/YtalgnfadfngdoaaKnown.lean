/-
  The walk of 'known': the two examples of the document stand.
-/
import Derived.Test.YtalgnfadfngdoaaWrap
import Derived.Lib.SlBytesConst
namespace Go.Proofs.Ytalgnfadfngdoaa
open Go.RowKit

theorem Byt.marked (w : World) (E : TypeId) (l : List UInt8) (B : Nat) (m : Nat × Nat) (hB : w.heap.size < B) : Byt (w.alloc (.cells (l.map fun c => Value.int .u8 (n8 c)).toArray E m)) B (some ⟨w.heap.size, 0, none⟩) l.length l := by
  refine ⟨rfl, fun _ => ⟨_, _, rfl, hB, fun j d hj => ?_⟩⟩
  rw [cell_of_row _ w.heap.size (0 + j) _ E m (heap_alloc_new w _)]
  simp [hj]

def nine : List UInt8 := [49, 50, 51, 52, 53, 54, 55, 56, 57]
def eight : List UInt8 := [0, 0, 0, 0, 28, 223, 68, 33]
theorem nine_sum : sumF nine = 0xCBF43926#32 := by decide +kernel
theorem eight_frame : wrapF [] = eight := by decide +kernel
theorem nine_n32 : n32 (sumF nine) = 3421780262 := by rw [nine_sum]; decide

set_option maxHeartbeats 400000 in
theorem known_any (w : World) : Calls Try.prog 9 #[] w fun e w' => e = .returned (.bool true) ∧ Below w.heap.size w w' := by
  have kc := fun (w : World) (C : Array Value) (n c : Nat) => Lib.run_convert_bytes_const (P := Try.prog) w 23 5 C n c Try.underlying23 Try.underlying5
  go_enter Try.func9, Try.ntmps9
  go_wp2_with fail
  refine (wrap_yes none 0 0 [] w.heap.size w (by omega) (Byt.nil_ _) (Nat.le_refl _)).mono ?_
  rintro e w1 ⟨A1, c1, rfl, hown1, hb1⟩
  have hs1 := hb1.size
  go_wp2_with fail
  refine (sum_any _ 9 9 nine (w1.heap.size + 1) _ (by omega) (Byt.marked w1 5 nine _ _ (by omega)) (by simp)).mono ?_
  rintro e w2 ⟨rfl, hb2⟩
  have hn := nine_n32
  rw [eight_frame] at hown1
  simp only [Nat.zero_add] at hown1
  have hb2' : Below w1.heap.size w1 w2 := ((Below.refl _ _).alloc (Nat.le_refl _) _).trans (hb2.mono (by simp))
  have hown2 := hown1.below hb2'
  have hs2 := hb2'.size
  clear hb2 hown1
  generalize sumF nine = S9 at *
  go_wp2_with fail
  refine (bytes_any A1 _ 8 c1 8 8 eight eight _ (w2.heap.size + 1) _ (hown2.alloc _).byt (Byt.news w2 5 eight _ (by omega))).mono ?_
  rintro e w3 ⟨rfl, rfl⟩
  go_wp2_with fail
  go_ret
  exact ⟨by simp, ((hb1.trans (hb2'.mono hs1))).alloc (by omega) _⟩
end Go.Proofs.Ytalgnfadfngdoaa
