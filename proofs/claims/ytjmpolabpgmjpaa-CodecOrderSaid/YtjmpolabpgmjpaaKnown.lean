/-
  The walk of 'known': the document's examples stand. Key and Row where the values are right.
-/
import Derived.Test.YtjmpolabpgmjpaaRow
namespace Go.Proofs.Ytjmpolabpgmjpaa
open Go.RowKit

theorem key_ok (A : Option Addr) (n c : Nat) (vs : List Val) (B : Nat) (w : World) (hn : n ≤ 9223372036854775807) (hr : Vals w B A n vs) (hB : B ≤ w.heap.size) (h0 : rightF vs 3 = 0) (m : Nat) (hm : (keyF vs).length = m) :
    Calls Try.prog 15 #[.slice A n c] w fun e w' => ∃ A' c', e = .returned (.tuple #[.slice A' m c', .int .i64 0]) ∧ Own w' w.heap.size 5 A' m c' (keyF vs) ∧ m ≤ 200 ∧ Below w.heap.size w w' := by
  refine (key_any A n c vs B w hn hr hB).mono ?_
  rintro e w' (⟨h, _⟩ | ⟨_, A', n', c', rfl, hown, h200, hb⟩)
  · exact absurd h0 h
  · have := hown.len
    obtain rfl : m = n' := by omega
    exact ⟨A', c', rfl, hown, h200, hb⟩
theorem row_ok (A : Option Addr) (n c : Nat) (vs : List Val) (B : Nat) (w : World) (hn : n ≤ 9223372036854775807) (hr : Vals w B A n vs) (hB : B ≤ w.heap.size) (h0 : rightF vs 8 = 0) (m : Nat) (hm : (rowF vs).length = m) :
    Calls Try.prog 13 #[.slice A n c] w fun e w' => ∃ A' c', e = .returned (.tuple #[.slice A' m c', .int .i64 0]) ∧ Own w' w.heap.size 5 A' m c' (rowF vs) ∧ m ≤ 500 ∧ Below w.heap.size w w' := by
  refine (row_any A n c vs B w hn hr hB).mono ?_
  rintro e w' (⟨h, _⟩ | ⟨_, A', n', c', rfl, hown, h500, hb⟩)
  · exact absurd h0 h
  · have := hown.len
    obtain rfl : m = n' := by omega
    exact ⟨A', c', rfl, hown, h500, hb⟩

/-- One value, and two, in a block of their own. -/
theorem Vals.one (w : World) (k n : Int) (t : List UInt8) (hf : (⟨k, n, t⟩ : Val).fits) (B : Nat) (hB : w.heap.size < B) :
    Vals (w.alloc (.cells #[.int .i64 k, .int .i64 n, .string (strOf t)] 36)) B (some ⟨w.heap.size, 0, none⟩) 1 [⟨k, n, t⟩] := by
  refine ⟨rfl, (fun v hv => by rw [List.mem_singleton.1 hv]; exact hf), fun _ => ⟨_, _, rfl, hB, fun j v hj => ?_⟩⟩
  match j, hj with
  | 0, hj =>
    simp at hj
    subst hj
    have hc := fun i => cell_of_row (w.alloc (.cells #[.int .i64 k, .int .i64 n, .string (strOf t)] 36)) w.heap.size i _ 36 (0, 0) (heap_alloc_new w _)
    exact ⟨hc 0, hc 1, hc 2⟩
theorem Vals.two (w : World) (k n : Int) (t : List UInt8) (k2 n2 : Int) (t2 : List UInt8) (hf : (⟨k, n, t⟩ : Val).fits) (hf2 : (⟨k2, n2, t2⟩ : Val).fits) (B : Nat) (hB : w.heap.size < B) :
    Vals (w.alloc (.cells #[.int .i64 k, .int .i64 n, .string (strOf t), .int .i64 k2, .int .i64 n2, .string (strOf t2)] 36)) B (some ⟨w.heap.size, 0, none⟩) 2 [⟨k, n, t⟩, ⟨k2, n2, t2⟩] := by
  refine ⟨rfl, (fun v hv => by simp at hv; rcases hv with rfl | rfl <;> assumption), fun _ => ⟨_, _, rfl, hB, fun j v hj => ?_⟩⟩
  have hc := fun i => cell_of_row (w.alloc (.cells #[.int .i64 k, .int .i64 n, .string (strOf t), .int .i64 k2, .int .i64 n2, .string (strOf t2)] 36)) w.heap.size i _ 36 (0, 0) (heap_alloc_new w _)
  match j, hj with
  | 0, hj =>
    simp at hj
    subst hj
    exact ⟨hc 0, hc 1, hc 2⟩
  | 1, hj =>
    simp at hj
    subst hj
    exact ⟨hc 3, hc 4, hc 5⟩

def minus : List Val := [⟨2, -1, []⟩]
def pair : List Val := [⟨2, 1, []⟩, ⟨0, 0, []⟩]
theorem minus_key : keyF minus = [2, 127, 255, 255, 255, 255, 255, 255, 255] := by decide +kernel
theorem pair_row : rowF pair = [2, 2, 1, 0, 0, 0, 0, 0, 0, 0, 0] := by decide +kernel

set_option maxHeartbeats 800000 in
theorem known_any (w : World) : Calls Try.prog 11 #[] w fun e w' => e = .returned (.bool true) ∧ Below w.heap.size w w' := by
  go_enter Try.func11, Try.ntmps11
  go_wp2_with fail
  refine (key_ok (some ⟨w.heap.size, 0, none⟩) 1 1 minus (w.heap.size + 1) _ (by omega) (Vals.one w 2 (-1) [] (by unfold Val.fits; simp) _ (by omega)) (by simp) (by decide +kernel) 9 (by rw [minus_key]; rfl)).mono ?_
  rintro e w2 ⟨A2, c2, rfl, hown2, _, hb2⟩
  have hb2' : Below w.heap.size w w2 := ((Below.refl _ _).alloc (Nat.le_refl _) _).trans (hb2.mono (by simp))
  have hs2 := hb2'.size
  rw [minus_key] at hown2
  clear hb2
  go_wp2_with fail
  refine (row_ok (some ⟨w2.heap.size, 0, none⟩) 2 2 pair (w2.heap.size + 1) _ (by omega) (Vals.two w2 2 1 [] 0 0 [] (by unfold Val.fits; simp) (by unfold Val.fits; simp) _ (by omega)) (by simp) (by decide +kernel) 11 (by rw [pair_row]; rfl)).mono ?_
  rintro e w3 ⟨A3, c3, rfl, hown3, _, hb3⟩
  rw [pair_row] at hown3
  have hb3' : Below w2.heap.size w2 w3 := ((Below.refl _ _).alloc (Nat.le_refl _) _).trans (hb3.mono (by simp))
  have hb23 := hb2'.trans (hb3'.mono hs2)
  have hown23 := hown2.below hb3'
  obtain ⟨b2, o2, d1, rfl, _, hd1, hc1⟩ := hown23.byt.at_ (show 1 < 9 by omega)
  obtain ⟨b2', o2', d8, e8, _, hd8, hc8⟩ := hown23.byt.at_ (show 8 < 9 by omega)
  obtain ⟨b3, o3, d0, rfl, _, hd0, hc0⟩ := hown3.byt.at_ (show 0 < 11 by omega)
  obtain ⟨b3', o3', d2, e2, _, hd2, hc2⟩ := hown3.byt.at_ (show 2 < 11 by omega)
  cases e8; cases e2
  simp at hd1 hd8 hd0 hd2
  subst hd1 hd8 hd0 hd2
  simp only [Nat.add_zero] at hc0
  have v1 : n8 127 = 127 := rfl
  have v8 : n8 255 = 255 := rfl
  have v0 : n8 2 = 2 := rfl
  have v2 : n8 1 = 1 := rfl
  rw [v1] at hc1
  rw [v8] at hc8
  rw [v0] at hc0
  rw [v2] at hc2
  clear v1 v8 v0 v2 hown2 hown3 hown23 hb3 hb3'
  go_wp2_with fail
  go_ret
  exact ⟨rfl, hb23⟩
end Go.Proofs.Ytjmpolabpgmjpaa
