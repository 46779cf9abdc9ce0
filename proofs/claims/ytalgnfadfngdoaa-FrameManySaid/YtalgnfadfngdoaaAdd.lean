/-
  The walks of the sums: the document's Add, the program's table, Add, and both Sums: each returns 'addF'.
-/
import Derived.Test.YtalgnfadfngdoaaRows
import Derived.Test.YtalgnfadfngdoaaMem
import Derived.WalkKit
import Derived.LoopTactic
import Derived.WalkSpells
import Derived.WalkLawsBesides
import Derived.Lib.Hide
namespace Go.Proofs.Ytalgnfadfngdoaa
open Go.RowKit

attribute [local go_sem] xor32 not32 poly32 half32 shr32_4 n8_mod32 inb32 and32_15 thalf32 odd_rem odd_tmod odd_and n32_mod

/-- The register behind the first k bytes. -/
def crcTo (r : BitVec 32) (l : List UInt8) (k : Nat) : BitVec 32 := crc r (l.take k)
theorem crcTo_zero (r : BitVec 32) (l : List UInt8) : crcTo r l 0 = r := rfl
theorem crcTo_succ (r : BitVec 32) (l : List UInt8) (k : Nat) (c : UInt8) (h : l[k]? = some c) : crcTo r l (k + 1) = byt (crcTo r l k) c := by
  unfold crcTo crc
  rw [List.take_add_one, h]
  simp
theorem crcTo_all (r : BitVec 32) (l : List UInt8) (k : Nat) (h : l.length ≤ k) : crcTo r l k = crc r l := by
  unfold crcTo
  rw [List.take_of_length_le h]

set_option maxHeartbeats 400000 in
theorem radd_any (x : Int) (s : BitVec 32) (hx : x = n32 s) (A : Option Addr) (n c : Nat) (l : List UInt8) (B : Nat) (w : World) (hn : n ≤ 1099511627776) (hr : Byt w B A n l) :
    Calls Try.prog 11 #[.int .u32 x, .slice A n c] w fun e w' => e = .returned (.int .u32 (n32 (addF s l))) ∧ w = w' := by
  subst hx
  go_enter Try.func11, Try.ntmps11
  go_wp2
  go_loop [5, 6] (fun r i => ∃ k : Nat, k ≤ n ∧ i = .int .i64 k ∧ r = .int .u32 (n32 (crcTo (~~~ s) l k))) (fun _ i => n - (intOf i).toNat)
  case atStart => exact ⟨0, Nat.zero_le _, rfl, rfl⟩
  case round =>
    obtain ⟨k, hk, rfl, rfl⟩ := hrel
    by_cases hlt : k < n
    · obtain ⟨b, off, d, rfl, hb, hd, hcell⟩ := hr.at_ hlt
      have HS := Lib.hid (crcTo_succ (~~~ s) l k d hd)
      clear hd
      generalize crcTo (~~~ s) l k = y at *
      go_wp2
      go_loop [5, 7] (fun r i => ∃ j : Nat, j ≤ 8 ∧ i = .int .i64 j ∧ r = .int .u32 (n32 (stpN j (inb y d)))) (fun _ i => 8 - (intOf i).toNat)
      case atStart => exact ⟨0, Nat.zero_le _, rfl, rfl⟩
      case round =>
        obtain ⟨j, hj, rfl, rfl⟩ := hrel
        by_cases hj8 : j < 8
        · have hs : stpN (j + 1) (inb y d) = stp (stpN j (inb y d)) := rfl
          have H2 := Lib.hid hs
          clear hs
          generalize stpN j (inb y d) = z at *
          cases hz : odd32 z
          · go_wp2
            go_round
            case rel => exact ⟨j + 1, by omega, by go_num, by rw [H2.out, stp_nil _ hz]; exact congrArg _ (n32_mod _)⟩
            case measure => simp [intOf]; omega
          · go_wp2
            go_round
            case rel => exact ⟨j + 1, by omega, by go_num, by rw [H2.out, stp_one _ hz]⟩
            case measure => simp [intOf]; omega
        · obtain rfl : j = 8 := by omega
          go_wp2
          go_round
          case rel => exact ⟨k + 1, by omega, by go_num, by rw [HS.out]; rfl⟩
          case measure => simp [intOf]; omega
    · obtain rfl : k = n := by omega
      have hl := hr.len
      have HE := Lib.hid (crcTo_all (~~~ s) l k (by omega))
      clear hl hr
      go_wp2
      go_ret
      exact ⟨by rw [HE.out]; rfl, rfl⟩

/-- What the table holds behind k rounds. -/
def tabTo : Nat → Array Value
  | 0 => #[.int .u32 0, .int .u32 0, .int .u32 0, .int .u32 0, .int .u32 0, .int .u32 0, .int .u32 0, .int .u32 0, .int .u32 0, .int .u32 0, .int .u32 0, .int .u32 0, .int .u32 0, .int .u32 0, .int .u32 0, .int .u32 0]
  | k + 1 => (tabTo k).setIfInBounds k (.int .u32 (n32 (stpN 4 (BitVec.ofNat 32 k))))
theorem tabTo_size (k : Nat) : (tabTo k).size = 16 := by
  induction k with
  | zero => rfl
  | succ k ih => simp [tabTo, ih]
theorem tab_old (T : Array Value) (hs : T.size = 16) (w : World) (o : Obj) (k : Nat) (h : k < 16) : ∃ v, ((w.alloc o).alloc (.cells T 44)).cell? ⟨w.heap.size + 1, k, none⟩ = some v := by
  refine ⟨T[k]'(by omega), ?_⟩
  have := cell_of_row ((w.alloc o).alloc (.cells T 44)) (w.heap.size + 1) k T 44 (0, 0) (by
    have := heap_alloc_new (w.alloc o) (.cells T 44)
    simpa using this)
  rw [this]
  simp [hs, h]
theorem tabTo_at (j : Nat) (h : j < 16) : (tabTo 16)[j]? = some (.int .u32 (n32 (stpN 4 (BitVec.ofNat 32 j)))) := by
  have : ∀ k, k ≤ 16 → ∀ j, j < k → (tabTo k)[j]? = some (.int .u32 (n32 (stpN 4 (BitVec.ofNat 32 j)))) := by
    intro k
    induction k with
    | zero => intro _ j hj; omega
    | succ k ih =>
      intro hk j hj
      have hs := tabTo_size k
      simp only [tabTo]
      rw [Array.getElem?_setIfInBounds]
      by_cases e : k = j
      · subst e
        simp [hs]
        omega
      · rw [if_neg e]
        exact ih (by omega) j (by omega)
  exact this 16 (by omega) j h

theorem arr16 (T : Array Value) (h : T.size = 16) (f : Nat → Int) (hf : ∀ j, j < 16 → T[j]? = some (.int .u32 (f j))) :
    T = #[.int .u32 (f 0), .int .u32 (f 1), .int .u32 (f 2), .int .u32 (f 3), .int .u32 (f 4), .int .u32 (f 5), .int .u32 (f 6), .int .u32 (f 7), .int .u32 (f 8), .int .u32 (f 9), .int .u32 (f 10), .int .u32 (f 11), .int .u32 (f 12), .int .u32 (f 13), .int .u32 (f 14), .int .u32 (f 15)] := by
  apply Array.ext
  · simp [h]
  · intro i hi hi2
    rw [h] at hi
    have h1 := hf i hi
    rw [Array.getElem?_eq_getElem (by omega)] at h1
    have h2 : T[i] = .int .u32 (f i) := by injection h1
    rw [h2]
    rcases (show i = 0 ∨ i = 1 ∨ i = 2 ∨ i = 3 ∨ i = 4 ∨ i = 5 ∨ i = 6 ∨ i = 7 ∨ i = 8 ∨ i = 9 ∨ i = 10 ∨ i = 11 ∨ i = 12 ∨ i = 13 ∨ i = 14 ∨ i = 15 by omega) with rfl | rfl | rfl | rfl | rfl | rfl | rfl | rfl | rfl | rfl | rfl | rfl | rfl | rfl | rfl | rfl <;> rfl
set_option maxHeartbeats 400000 in
/-- The walk of the table, over whatever tells its states: nothing of them is laid open. -/
theorem table_gen (tb : Nat → Array Value) (h0 : tb 0 = #[.int .u32 0, .int .u32 0, .int .u32 0, .int .u32 0, .int .u32 0, .int .u32 0, .int .u32 0, .int .u32 0, .int .u32 0, .int .u32 0, .int .u32 0, .int .u32 0, .int .u32 0, .int .u32 0, .int .u32 0, .int .u32 0])
    (hstep : ∀ k, k < 16 → tb (k + 1) = (tb k).setIfInBounds k (.int .u32 (n32 (stpN 4 (BitVec.ofNat 32 k))))) (hsize : ∀ k, (tb k).size = 16)
    (x0 x1 x2 x3 x4 x5 x6 x7 x8 x9 x10 x11 x12 x13 x14 x15 : Int) (hT : tb 16 = #[.int .u32 x0, .int .u32 x1, .int .u32 x2, .int .u32 x3, .int .u32 x4, .int .u32 x5, .int .u32 x6, .int .u32 x7, .int .u32 x8, .int .u32 x9, .int .u32 x10, .int .u32 x11, .int .u32 x12, .int .u32 x13, .int .u32 x14, .int .u32 x15]) (w : World) :
    Calls Try.prog 19 #[] w fun e w' => e = .returned (.agg #[.int .u32 x0, .int .u32 x1, .int .u32 x2, .int .u32 x3, .int .u32 x4, .int .u32 x5, .int .u32 x6, .int .u32 x7, .int .u32 x8, .int .u32 x9, .int .u32 x10, .int .u32 x11, .int .u32 x12, .int .u32 x13, .int .u32 x14, .int .u32 x15]) ∧ Below w.heap.size w w' := by
  have H0 := Lib.hid h0
  have HT := Lib.hid hT
  have HSTEP := Lib.hid hstep
  have HSIZE := Lib.hid hsize
  clear h0 hT hstep hsize
  go_enter Try.func19, Try.ntmps19
  go_wp2
  go_loopw [2, 3, 4, 5] (fun _ _ _ i wr => ∃ k : Nat, k ≤ 16 ∧ i = .int .i64 k ∧ (w.alloc (.cells (tb 0) 44)).alloc (.cells (tb k) 44) = wr) (fun _ _ _ i _ => 16 - (intOf i).toNat)
  case atStart => exact ⟨0, by omega, rfl, by rw [H0.out]⟩
  case round =>
    obtain ⟨k, hk, rfl, rfl⟩ := hrel
    by_cases hlt : k < 16
    · have HK := Lib.hid (n32_of k (by omega)).symm
      obtain ⟨v, hv⟩ := tab_old (tb k) (HSIZE.out k) w (.cells (tb 0) 44) k hlt
      have hs := HSIZE.out k
      have HTk := Lib.hid (HSTEP.out k hlt)
      generalize tb k = Tk at *
      go_wp2
      go_loop [3, 4, 10] (fun r _ i => ∃ j : Nat, j ≤ 4 ∧ i = .int .i64 j ∧ r = .int .u32 (n32 (stpN j (BitVec.ofNat 32 k)))) (fun _ _ i => 4 - (intOf i).toNat)
      case atStart => exact ⟨0, Nat.zero_le _, rfl, congrArg _ HK.out⟩
      case round =>
        obtain ⟨j, hj, rfl, rfl⟩ := hrel
        by_cases hj4 : j < 4
        · have hs2 : stpN (j + 1) (BitVec.ofNat 32 k) = stp (stpN j (BitVec.ofNat 32 k)) := rfl
          have H2 := Lib.hid hs2
          clear hs2
          generalize stpN j (BitVec.ofNat 32 k) = z at *
          cases hz : odd32 z
          · go_wp2
            go_round
            case rel => exact ⟨j + 1, by omega, by go_num, by rw [H2.out, stp_nil _ hz]⟩
            case measure => simp [intOf]; omega
          · go_wp2
            go_round
            case rel => exact ⟨j + 1, by omega, by go_num, by rw [H2.out, stp_one _ hz]⟩
            case measure => simp [intOf]; omega
        · obtain rfl : j = 4 := by omega
          generalize stpN 4 (BitVec.ofNat 32 k) = z at *
          go_wp2
          go_roundw
          case rel => exact ⟨k + 1, by omega, by go_num, by rw [HTk.out]⟩
          case measure => simp [intOf]; omega
    · obtain rfl : k = 16 := by omega
      rw [HT.out, H0.out]
      go_wp2
      exact bodyPost_ret (v := .agg #[.int .u32 x0, .int .u32 x1, .int .u32 x2, .int .u32 x3, .int .u32 x4, .int .u32 x5, .int .u32 x6, .int .u32 x7, .int .u32 x8, .int .u32 x9, .int .u32 x10, .int .u32 x11, .int .u32 x12, .int .u32 x13, .int .u32 x14, .int .u32 x15])
        (by simp [results, Try.results19, go_sem]) rfl
        ⟨rfl, ((Below.refl _ _).alloc (Nat.le_refl _) _).alloc (by simp) _⟩

theorem table_any : ∃ x0 x1 x2 x3 x4 x5 x6 x7 x8 x9 x10 x11 x12 x13 x14 x15 : Int, (∀ j, j < 16 → (#[.int .u32 x0, .int .u32 x1, .int .u32 x2, .int .u32 x3, .int .u32 x4, .int .u32 x5, .int .u32 x6, .int .u32 x7, .int .u32 x8, .int .u32 x9, .int .u32 x10, .int .u32 x11, .int .u32 x12, .int .u32 x13, .int .u32 x14, .int .u32 x15] : Array Value)[j]? = some (.int .u32 (n32 (stpN 4 (BitVec.ofNat 32 j))))) ∧
    ∀ w : World, Calls Try.prog 19 #[] w fun e w' => e = .returned (.agg #[.int .u32 x0, .int .u32 x1, .int .u32 x2, .int .u32 x3, .int .u32 x4, .int .u32 x5, .int .u32 x6, .int .u32 x7, .int .u32 x8, .int .u32 x9, .int .u32 x10, .int .u32 x11, .int .u32 x12, .int .u32 x13, .int .u32 x14, .int .u32 x15]) ∧ Below w.heap.size w w' := by
  have ht := arr16 (tabTo 16) (tabTo_size 16) (fun j => n32 (stpN 4 (BitVec.ofNat 32 j))) tabTo_at
  refine ⟨_, _, _, _, _, _, _, _, _, _, _, _, _, _, _, _, fun j hj => ?_, fun w => table_gen tabTo rfl (fun _ _ => rfl) tabTo_size _ _ _ _ _ _ _ _ _ _ _ _ _ _ _ _ ht w⟩
  rw [← ht]
  exact tabTo_at j hj

set_option maxHeartbeats 400000 in
theorem add_any (x : Int) (s : BitVec 32) (hx : x = n32 s) (A : Option Addr) (n c : Nat) (l : List UInt8) (B : Nat) (w : World) (hn : n ≤ 1099511627776) (hr : Byt w B A n l) (hB : B ≤ w.heap.size) :
    Calls Try.prog 10 #[.int .u32 x, .slice A n c] w fun e w' => e = .returned (.int .u32 (n32 (addF s l))) ∧ Below w.heap.size w w' := by
  subst hx
  obtain ⟨x0, x1, x2, x3, x4, x5, x6, x7, x8, x9, x10, x11, x12, x13, x14, x15, hT, ht⟩ := table_any
  have HT := Lib.hid hT
  have HC := Lib.hid (ht w)
  clear hT ht
  go_enter Try.func10, Try.ntmps10
  go_wp2_with (go_at_call 19; refine HC.out.mono ?_; rintro e w1 ⟨rfl, hb1⟩)
  have hcells : ∀ j, j < 16 → (w1.alloc (.cells #[.int .u32 x0, .int .u32 x1, .int .u32 x2, .int .u32 x3, .int .u32 x4, .int .u32 x5, .int .u32 x6, .int .u32 x7, .int .u32 x8, .int .u32 x9, .int .u32 x10, .int .u32 x11, .int .u32 x12, .int .u32 x13, .int .u32 x14, .int .u32 x15] 44)).cell? ⟨w1.heap.size, j, none⟩ = some (.int .u32 (n32 (stpN 4 (BitVec.ofNat 32 j)))) := by
    intro j hj
    rw [cell_of_row _ w1.heap.size j #[.int .u32 x0, .int .u32 x1, .int .u32 x2, .int .u32 x3, .int .u32 x4, .int .u32 x5, .int .u32 x6, .int .u32 x7, .int .u32 x8, .int .u32 x9, .int .u32 x10, .int .u32 x11, .int .u32 x12, .int .u32 x13, .int .u32 x14, .int .u32 x15] 44 (0, 0) (heap_alloc_new w1 _)]
    exact HT.out j hj
  have hbW : Below w.heap.size w (w1.alloc (.cells #[.int .u32 x0, .int .u32 x1, .int .u32 x2, .int .u32 x3, .int .u32 x4, .int .u32 x5, .int .u32 x6, .int .u32 x7, .int .u32 x8, .int .u32 x9, .int .u32 x10, .int .u32 x11, .int .u32 x12, .int .u32 x13, .int .u32 x14, .int .u32 x15] 44)) := hb1.alloc hb1.size _
  obtain ⟨W, hW⟩ : ∃ W, W = w1.alloc (.cells #[.int .u32 x0, .int .u32 x1, .int .u32 x2, .int .u32 x3, .int .u32 x4, .int .u32 x5, .int .u32 x6, .int .u32 x7, .int .u32 x8, .int .u32 x9, .int .u32 x10, .int .u32 x11, .int .u32 x12, .int .u32 x13, .int .u32 x14, .int .u32 x15] 44) := ⟨_, rfl⟩
  rw [← hW] at hcells hbW ⊢
  clear hW HT HC
  have hr2 := (hr.more hB).below hbW
  have HCELL := Lib.hid hcells
  clear hcells hr hb1
  generalize w1.heap.size = g at *
  go_loop [6, 14] (fun r i => ∃ k : Nat, k ≤ n ∧ i = .int .i64 k ∧ r = .int .u32 (n32 (crcTo (~~~ s) l k))) (fun _ i => n - (intOf i).toNat)
  case atStart => exact ⟨0, Nat.zero_le _, rfl, rfl⟩
  case round =>
    obtain ⟨k, hk, rfl, rfl⟩ := hrel
    by_cases hlt : k < n
    · obtain ⟨b, off, d, rfl, hb, hd, hcell⟩ := hr2.at_ hlt
      have hs := crcTo_succ (~~~ s) l k d hd
      clear hd
      have HS := Lib.hid hs
      clear hs
      generalize crcTo (~~~ s) l k = y at *
      have hz8 : stpN 4 (stpN 4 (inb y d)) = byt y d := (stpN_add 4 4 _).symm
      have HZ8 := Lib.hid hz8
      clear hz8
      generalize hz : inb y d = z at *
      obtain ⟨j, hj, hj1, hj2⟩ := and32_15_nat z
      have e1 := stpN_four z
      rw [hj1] at e1
      generalize stpN 4 z = z1 at *
      obtain ⟨j', hj', hj1', hj2'⟩ := and32_15_nat z1
      have e2 := stpN_four z1
      rw [hj1'] at e2
      have c1 := HCELL.out j hj
      have c2 := HCELL.out j' hj'
      clear hj1 hj1'
      generalize stpN 4 z1 = z2 at *
      generalize stpN 4 (BitVec.ofNat 32 j) = t1 at *
      generalize stpN 4 (BitVec.ofNat 32 j') = t2 at *
      have E1 := e1.symm
      have E2 := e2.symm
      clear e1 e2
      go_wp2
      go_round
      case rel => exact ⟨k + 1, by omega, by go_num, by rw [HS.out, HZ8.out]⟩
      case measure => simp [intOf]; omega
    · obtain rfl : k = n := by omega
      have hl := hr2.len
      have HE := Lib.hid (crcTo_all (~~~ s) l k (by omega))
      clear hl hr2
      go_wp2
      go_ret
      exact ⟨by rw [HE.out]; rfl, hbW⟩

def sumF (l : List UInt8) : BitVec 32 := addF 0#32 l

theorem rsum_any (A : Option Addr) (n c : Nat) (l : List UInt8) (B : Nat) (w : World) (hn : n ≤ 1099511627776) (hr : Byt w B A n l) :
    Calls Try.prog 13 #[.slice A n c] w fun e w' => e = .returned (.int .u32 (n32 (sumF l))) ∧ w = w' := by
  go_enter Try.func13, Try.ntmps13
  go_wp2_with (go_at_call 11; refine (radd_any 0 0#32 rfl A n c l B _ hn hr).mono ?_; rintro e w' ⟨rfl, rfl⟩)
  go_ret
  exact ⟨rfl, rfl⟩

theorem sum_any (A : Option Addr) (n c : Nat) (l : List UInt8) (B : Nat) (w : World) (hn : n ≤ 1099511627776) (hr : Byt w B A n l) (hB : B ≤ w.heap.size) :
    Calls Try.prog 12 #[.slice A n c] w fun e w' => e = .returned (.int .u32 (n32 (sumF l))) ∧ Below w.heap.size w w' := by
  go_enter Try.func12, Try.ntmps12
  go_wp2_with (go_at_call 10; refine (add_any 0 0#32 rfl A n c l B _ hn hr hB).mono ?_; rintro e w' ⟨rfl, hb⟩)
  go_ret
  exact ⟨rfl, hb⟩
end Go.Proofs.Ytalgnfadfngdoaa
