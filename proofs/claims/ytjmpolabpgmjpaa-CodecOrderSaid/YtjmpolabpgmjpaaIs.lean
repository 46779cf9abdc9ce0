/-
  Values, and the walks of both 'Is': whether a value is one.
-/
import Derived.Test.YtjmpolabpgmjpaaRows
import Derived.Test.YtjmpolabpgmjpaaMem
import Derived.WalkKit
import Derived.LoopTactic
import Derived.WalkSpells
import Derived.WalkLawsBesides
import Derived.Laws.StructEq
import Derived.Lib.Bytealg
import Derived.Lib.Hide
namespace Go.Proofs.Ytjmpolabpgmjpaa
open Go.RowKit

/-- A value: its kind, its number, its text. -/
structure Val where
  kind : Int
  num : Int
  text : List UInt8
def Val.fits (v : Val) : Prop := -9223372036854775808 ≤ v.kind ∧ v.kind ≤ 9223372036854775807 ∧ -9223372036854775808 ≤ v.num ∧ v.num ≤ 9223372036854775807 ∧ v.text.length ≤ 9223372036854775807
/-- As the walk's structure. -/
def Val.agg (v : Val) : Value := .agg #[.int .i64 v.kind, .int .i64 v.num, .string (strOf v.text)]

/-- Is it a value? -/
def isV (v : Val) : Bool :=
  if v.kind = 0 then decide (v.num = 0 ∧ v.text = [])
  else if v.kind = 1 then decide ((v.num = 0 ∨ v.num = 1) ∧ v.text = [])
  else if v.kind = 2 then decide (v.text = [])
  else if v.kind = 3 then decide (v.num = 0 ∧ v.text.length ≤ 40 ∧ ¬ (0 : UInt8) ∈ v.text)
  else false

theorem strOf_list (l : List UInt8) : (strOf l).toList = l := by unfold strOf; exact ByteArray.toList_mk l

theorem strOf_size (l : List UInt8) : (strOf l).size = l.length := rfl
theorem strOf_data (l : List UInt8) : (strOf l).data.toList = l := by unfold strOf; rfl
theorem strOf_self (s : ByteArray) : strOf s.data.toList = s := rfl
attribute [local go_sem] strOf_list strOf_size

theorem and_one (n : Int) (h0 : -9223372036854775808 ≤ n) (h1 : n ≤ 9223372036854775807) : bits .and .i64 n 1 = n % 2 := by
  have h : (BitVec.ofInt 64 n &&& BitVec.ofInt 64 1).toNat = (n % 2).toNat := by
    rw [BitVec.toNat_and]
    have e1 : (BitVec.ofInt 64 1).toNat = 1 := by decide
    rw [e1, nat_mask1, BitVec.toNat_ofInt]
    omega
  show IntKind.i64.wrap (((BitVec.ofInt 64 n &&& BitVec.ofInt 64 1).toNat : Nat) : Int) = n % 2
  rw [h, IntKind.wrap_i64]
  omega

theorem indexByte_zero (l : List UInt8) : Lib.indexByte l 0 < 0 ↔ ¬ (0 : UInt8) ∈ l := by
  induction l with
  | nil => simp [Lib.indexByte]
  | cons b l ih =>
    unfold Lib.indexByte
    by_cases hb : b = 0
    · subst hb
      simp
    · have hb' : ¬ (0 : UInt8) = b := fun h => hb h.symm
      simp only [List.mem_cons, hb', false_or]
      rw [← ih]
      have hge := Lib.indexByte_ge l 0
      have hbf : (b == 0) = false := by rw [beq_eq_false_iff_ne]; exact hb
      rw [hbf]
      simp only [Bool.false_eq_true, if_false]
      by_cases hneg : Lib.indexByte l 0 < 0
      · have hm1 : Lib.indexByte l 0 = -1 := by omega
        rw [hm1]
        decide
      · have h1 : ¬ Lib.indexByte l 0 = -1 := by omega
        simp [hneg, h1]
        try omega

theorem index_any (s : ByteArray) (c : Int) (w : World) :
    Calls Try.prog 42 #[.string s, .int .u8 c] w fun e w' => e = .returned (.int .i64 (Lib.indexByte s.data.toList c.toNat.toUInt8)) ∧ w = w' := by
  have hx : ∀ W : World, (callFunc 44 #[.string s, .int .u8 c]).run Try.prog W = .ok (.value (.int .i64 (Lib.indexByte s.data.toList c.toNat.toUInt8))) W := by
    intro W
    rw [run_callFunc_extern Try.func44 (by kernel_rfl) (by kernel_rfl) (by kernel_rfl) (e := Extern.BytealgIndexByte.indexByte) (by kernel_rfl), Lib.run_indexByteString]
    rfl
  go_enter Try.func42, Try.ntmps42
  go_wp2
  go_ret
  exact ⟨rfl, rfl⟩

theorem isV_zero (n : Int) (t : List UInt8) : isV ⟨0, n, t⟩ = decide (n = 0 ∧ t = []) := rfl
theorem isV_one (n : Int) (t : List UInt8) : isV ⟨1, n, t⟩ = decide ((n = 0 ∨ n = 1) ∧ t = []) := rfl
theorem isV_two (n : Int) (t : List UInt8) : isV ⟨2, n, t⟩ = decide (t = []) := rfl
theorem isV_three (n : Int) (t : List UInt8) : isV ⟨3, n, t⟩ = decide (n = 0 ∧ t.length ≤ 40 ∧ ¬ (0 : UInt8) ∈ t) := rfl
theorem isV_else (k n : Int) (t : List UInt8) (h0 : k ≠ 0) (h1 : k ≠ 1) (h2 : k ≠ 2) (h3 : k ≠ 3) : isV ⟨k, n, t⟩ = false := by
  unfold isV
  simp only [h0, h1, h2, h3, if_false]

/-- The result of a test, and that the world has but a new block. -/
theorem is_end {P : Prop} [Decidable P] {b : Bool} (h : b = true ↔ P) : Ending.returned (.bool b) = .returned (.bool (decide P)) := by
  congr 2
  rw [Bool.eq_iff_iff, h]
  simp

set_option maxHeartbeats 800000 in
theorem is_any (k n : Int) (t : List UInt8) (h0 : -9223372036854775808 ≤ n) (h1 : n ≤ 9223372036854775807) (w : World) :
    Calls Try.prog 38 #[.agg #[.int .i64 k, .int .i64 n, .string (strOf t)]] w fun e w' => e = .returned (.bool (isV ⟨k, n, t⟩)) ∧ Below w.heap.size w w' := by
  have hand := and_one n h0 h1
  clear h0 h1
  by_cases k0 : k = 0
  · subst k0
    clear hand
    rw [isV_zero]
    by_cases hn : n = 0
    · subst hn
      by_cases ht : t = []
      · subst ht
        go_enter Try.func38, Try.ntmps38
        go_wp2_with fail
        go_ret
        exact ⟨by simp, (Below.refl _ _).alloc (Nat.le_refl _) _⟩
      · go_enter Try.func38, Try.ntmps38
        go_wp2_with fail
        go_ret
        exact ⟨by simp [ht], (Below.refl _ _).alloc (Nat.le_refl _) _⟩
    · go_enter Try.func38, Try.ntmps38
      go_wp2_with fail
      go_ret
      exact ⟨by simp [hn], (Below.refl _ _).alloc (Nat.le_refl _) _⟩
  · by_cases k1 : k = 1
    · subst k1
      rw [isV_one]
      clear k0
      by_cases ht : t = []
      · subst ht
        by_cases hn : n = 0
        · subst hn
          go_enter Try.func38, Try.ntmps38
          go_wp2_with fail
          go_ret
          exact ⟨by simp, (Below.refl _ _).alloc (Nat.le_refl _) _⟩
        · by_cases hn1 : n = 1
          · subst hn1
            go_enter Try.func38, Try.ntmps38
            go_wp2_with fail
            go_ret
            exact ⟨by simp, (Below.refl _ _).alloc (Nat.le_refl _) _⟩
          · have hne : (n == n % 2) = false := by
              rw [beq_eq_false_iff_ne]
              omega
            go_enter Try.func38, Try.ntmps38
            go_wp2_with fail
            go_ret
            exact ⟨by simp [hn, hn1], (Below.refl _ _).alloc (Nat.le_refl _) _⟩
      · by_cases hn : n = 0 ∨ n = 1
        · have hne : (n == n % 2) = true := by
            rw [beq_iff_eq]
            omega
          have HN := Lib.hid hn
          clear hn
          go_enter Try.func38, Try.ntmps38
          go_wp2_with fail
          go_ret
          exact ⟨by simp [ht], (Below.refl _ _).alloc (Nat.le_refl _) _⟩
        · have hne : (n == n % 2) = false := by
            rw [beq_eq_false_iff_ne]
            omega
          go_enter Try.func38, Try.ntmps38
          go_wp2_with fail
          go_ret
          exact ⟨by simp [hn], (Below.refl _ _).alloc (Nat.le_refl _) _⟩
    · clear hand
      by_cases k2 : k = 2
      · subst k2
        rw [isV_two]
        clear k0 k1
        by_cases ht : t = []
        · subst ht
          go_enter Try.func38, Try.ntmps38
          go_wp2_with fail
          go_ret
          exact ⟨by simp, (Below.refl _ _).alloc (Nat.le_refl _) _⟩
        · go_enter Try.func38, Try.ntmps38
          go_wp2_with fail
          go_ret
          exact ⟨by simp [ht], (Below.refl _ _).alloc (Nat.le_refl _) _⟩
      · by_cases k3 : k = 3
        · subst k3
          rw [isV_three]
          clear k0 k1 k2
          by_cases hn : n = 0
          · subst hn
            by_cases h40 : t.length ≤ 40
            · have h40' : (t.length : Int) ≤ 40 := by omega
              have hidx := indexByte_zero t
              go_enter Try.func38, Try.ntmps38
              go_wp2_with fail
              refine (index_any _ 0 _).mono ?_
              rintro e w2 ⟨rfl, rfl⟩
              rw [strOf_data, show (0 : Int).toNat.toUInt8 = 0 from rfl]
              generalize Lib.indexByte t 0 = i at *
              have HI := Lib.hid hidx
              clear hidx
              by_cases hi : i < 0
              · go_wp2_with fail
                go_ret
                exact ⟨by have := HI.out.1 hi; simp [this, h40], (Below.refl _ _).alloc (Nat.le_refl _) _⟩
              · go_wp2_with fail
                go_ret
                have h00 : ¬ ¬ (0 : UInt8) ∈ t := fun h => absurd (HI.out.2 h) (by omega)
                exact ⟨by simp at h00; simp [h00]; omega, (Below.refl _ _).alloc (Nat.le_refl _) _⟩
            · have h40' : ¬ (t.length : Int) ≤ 40 := by omega
              go_enter Try.func38, Try.ntmps38
              go_wp2_with fail
              go_ret
              exact ⟨by simp, (Below.refl _ _).alloc (Nat.le_refl _) _⟩
          · go_enter Try.func38, Try.ntmps38
            go_wp2_with fail
            go_ret
            exact ⟨by simp [hn], (Below.refl _ _).alloc (Nat.le_refl _) _⟩
        · rw [isV_else k n t k0 k1 k2 k3]
          go_enter Try.func38, Try.ntmps38
          go_wp2_with fail
          go_ret
          exact ⟨by rfl, (Below.refl _ _).alloc (Nat.le_refl _) _⟩

set_option maxHeartbeats 800000 in
theorem ris_text (n : Int) (t : List UInt8) (hl : t.length ≤ 9223372036854775807) (w : World) :
    Calls Try.prog 39 #[.agg #[.int .i64 3, .int .i64 n, .string (strOf t)]] w fun e w' => e = .returned (.bool (isV ⟨3, n, t⟩)) ∧ Below w.heap.size w w' := by
  rw [isV_three]
  go_enter Try.func39, Try.ntmps39
  go_wp2_with fail
  go_loop [3] (fun v => ∃ i : Nat, i ≤ t.length ∧ v = .int .i64 i ∧ ¬ (0 : UInt8) ∈ t.take i) (fun v => t.length - (intOf v).toNat)
  case atStart => exact ⟨0, Nat.zero_le _, rfl, by simp⟩
  case round =>
    obtain ⟨i, hi, rfl, hno⟩ := hrel
    by_cases hlt : i < t.length
    · have HNO := Lib.hid hno
      clear hno
      have hat : ((strOf t)[i]'hlt) = t[i] := rfl
      by_cases hz : t[i] = 0
      · have hb : ((((strOf t)[i]'hlt).toNat : Int) == 0) = true := by rw [hat, hz]; rfl
        have hmem : (0 : UInt8) ∈ t := by rw [← hz]; exact List.getElem_mem _
        have HM := Lib.hid hmem
        clear hat hz hmem
        go_wp2_with fail
        go_ret
        exact ⟨by have := HM.out; simp [this], (Below.refl _ _).alloc (Nat.le_refl _) _⟩
      · have hb : ((((strOf t)[i]'hlt).toNat : Int) == 0) = false := by
          rw [hat, beq_eq_false_iff_ne]
          intro h
          exact hz (UInt8.toNat_inj.1 (by simpa using h))
        have hno' : ¬ (0 : UInt8) ∈ t.take (i + 1) := by
          rw [List.take_succ_eq_append_getElem hlt]
          simp only [List.mem_append, List.mem_singleton, not_or]
          exact ⟨HNO.out, fun h => hz h.symm⟩
        have HNO' := Lib.hid hno'
        clear hat hz hno'
        go_wp2_with fail
        go_round
        case rel => exact ⟨i + 1, by omega, by go_num, HNO'.out⟩
        case measure => simp [intOf]; omega
    · obtain rfl : i = t.length := by omega
      rw [List.take_length] at hno
      have HNO := Lib.hid hno
      clear hno
      by_cases hn : n = 0
      · subst hn
        by_cases h40 : t.length ≤ 40
        · have h40' : (t.length : Int) ≤ 40 := by omega
          go_wp2_with fail
          go_ret
          exact ⟨by have := HNO.out; simp [this], (Below.refl _ _).alloc (Nat.le_refl _) _⟩
        · have h40' : ¬ (t.length : Int) ≤ 40 := by omega
          go_wp2_with fail
          go_ret
          exact ⟨by simp, (Below.refl _ _).alloc (Nat.le_refl _) _⟩
      · go_wp2_with fail
        go_ret
        exact ⟨by simp, (Below.refl _ _).alloc (Nat.le_refl _) _⟩

set_option maxHeartbeats 800000 in
theorem ris_any (k n : Int) (t : List UInt8) (hl : t.length ≤ 9223372036854775807) (w : World) :
    Calls Try.prog 39 #[.agg #[.int .i64 k, .int .i64 n, .string (strOf t)]] w fun e w' => e = .returned (.bool (isV ⟨k, n, t⟩)) ∧ Below w.heap.size w w' := by
  by_cases k3 : k = 3
  · subst k3
    exact ris_text n t hl w
  · clear hl
    by_cases k0 : k = 0
    · subst k0
      rw [isV_zero]
      clear k3
      by_cases hn : n = 0
      · subst hn
        by_cases ht : t = []
        · subst ht
          go_enter Try.func39, Try.ntmps39
          go_wp2_with fail
          go_ret
          exact ⟨by simp, (Below.refl _ _).alloc (Nat.le_refl _) _⟩
        · go_enter Try.func39, Try.ntmps39
          go_wp2_with fail
          go_ret
          exact ⟨by simp [ht], (Below.refl _ _).alloc (Nat.le_refl _) _⟩
      · go_enter Try.func39, Try.ntmps39
        go_wp2_with fail
        go_ret
        exact ⟨by simp [hn], (Below.refl _ _).alloc (Nat.le_refl _) _⟩
    · by_cases k1 : k = 1
      · subst k1
        rw [isV_one]
        clear k3 k0
        by_cases ht : t = []
        · subst ht
          by_cases hn : n = 0
          · subst hn
            go_enter Try.func39, Try.ntmps39
            go_wp2_with fail
            go_ret
            exact ⟨by simp, (Below.refl _ _).alloc (Nat.le_refl _) _⟩
          · by_cases hn1 : n = 1
            · subst hn1
              go_enter Try.func39, Try.ntmps39
              go_wp2_with fail
              go_ret
              exact ⟨by simp, (Below.refl _ _).alloc (Nat.le_refl _) _⟩
            · go_enter Try.func39, Try.ntmps39
              go_wp2_with fail
              go_ret
              exact ⟨by simp [hn, hn1], (Below.refl _ _).alloc (Nat.le_refl _) _⟩
        · by_cases hn : n = 0
          · subst hn
            go_enter Try.func39, Try.ntmps39
            go_wp2_with fail
            go_ret
            exact ⟨by simp [ht], (Below.refl _ _).alloc (Nat.le_refl _) _⟩
          · by_cases hn1 : n = 1
            · subst hn1
              go_enter Try.func39, Try.ntmps39
              go_wp2_with fail
              go_ret
              exact ⟨by simp [ht], (Below.refl _ _).alloc (Nat.le_refl _) _⟩
            · go_enter Try.func39, Try.ntmps39
              go_wp2_with fail
              go_ret
              exact ⟨by simp [hn, hn1], (Below.refl _ _).alloc (Nat.le_refl _) _⟩
      · by_cases k2 : k = 2
        · subst k2
          rw [isV_two]
          clear k3 k0 k1
          by_cases ht : t = []
          · subst ht
            go_enter Try.func39, Try.ntmps39
            go_wp2_with fail
            go_ret
            exact ⟨by simp, (Below.refl _ _).alloc (Nat.le_refl _) _⟩
          · go_enter Try.func39, Try.ntmps39
            go_wp2_with fail
            go_ret
            exact ⟨by simp [ht], (Below.refl _ _).alloc (Nat.le_refl _) _⟩
        · rw [isV_else k n t k0 k1 k2 k3]
          go_enter Try.func39, Try.ntmps39
          go_wp2_with fail
          go_ret
          exact ⟨by rfl, (Below.refl _ _).alloc (Nat.le_refl _) _⟩
end Go.Proofs.Ytjmpolabpgmjpaa
