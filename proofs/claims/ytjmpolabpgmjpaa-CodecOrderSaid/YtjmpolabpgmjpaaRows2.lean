/-
  The walks of Rows and sign.
-/
import Derived.Test.YtjmpolabpgmjpaaCmp
namespace Go.Proofs.Ytjmpolabpgmjpaa
open Go.RowKit

def rowsV : List Val → List Val → Int
  | [], [] => 0
  | [], _ :: _ => -1
  | _ :: _, [] => 1
  | u :: a, v :: b => if cmpV u v = 0 then rowsV a b else cmpV u v
theorem rowsV_end {a b : List Val} (k : Nat) (h : a.length = k ∨ b.length = k) (ha : k ≤ a.length) (hb : k ≤ b.length) :
    rowsV (a.drop k) (b.drop k) = if a.length < b.length then -1 else if b.length < a.length then 1 else 0 := by
  rcases h with h | h
  · have e : a.drop k = [] := List.drop_of_length_le (by omega)
    rw [e]
    by_cases hlt : a.length < b.length
    · rw [if_pos hlt, List.drop_eq_getElem_cons (show k < b.length by omega)]
      rfl
    · rw [if_neg hlt, if_neg (by omega), List.drop_of_length_le (by omega)]
      rfl
  · have e : b.drop k = [] := List.drop_of_length_le (by omega)
    rw [e]
    by_cases hlt : b.length < a.length
    · rw [if_neg (by omega), if_pos hlt, List.drop_eq_getElem_cons (show k < a.length by omega)]
      rfl
    · rw [if_neg (by omega), if_neg hlt, List.drop_of_length_le (by omega)]
      rfl
theorem drop_at {a : List Val} {k : Nat} {u : Val} (h : a[k]? = some u) : a.drop k = u :: a.drop (k + 1) := by
  have hk : k < a.length := by
    rcases Nat.lt_or_ge k a.length with hh | hh
    · exact hh
    · rw [List.getElem?_eq_none hh] at h; cases h
  rw [List.drop_eq_getElem_cons hk]
  rw [List.getElem?_eq_getElem hk] at h
  injection h with h
  rw [h]
set_option linter.unusedVariables false
theorem ret_i64 {a b : Int} (h : a = b) : Ending.returned (.int .i64 a) = .returned (.int .i64 b) := by rw [h]

set_option maxHeartbeats 1600000 in
theorem rows_any (A : Option Addr) (n c : Nat) (B : Nat) (A2 : Option Addr) (n2 c2 : Nat) (B2 : Nat) (a b : List Val) (w : World) (hn : n ≤ 9223372036854775807) (hn2 : n2 ≤ 9223372036854775807)
    (h : Vals w B A n a) (h2 : Vals w B2 A2 n2 b) (hB : B ≤ w.heap.size) (hB2 : B2 ≤ w.heap.size) (ha : ∀ v ∈ a, isV v = true) (hb : ∀ v ∈ b, isV v = true) :
    Calls Try.prog 19 #[.slice A n c, .slice A2 n2 c2] w fun e w' => e = .returned (.int .i64 (rowsV a b)) ∧ Below w.heap.size w w' := by
  have HL := Lib.hid h.len
  have HL2 := Lib.hid h2.len
  have HA := Lib.hid ha
  have HB := Lib.hid hb
  clear ha hb
  go_enter Try.func19, Try.ntmps19
  go_wp2_with fail
  go_loopw [5] (fun v wr => ∃ k : Nat, k ≤ n ∧ k ≤ n2 ∧ v = .int .i64 k ∧ Below w.heap.size w wr ∧ Hid (rowsV a b = rowsV (a.drop k) (b.drop k))) (fun v _ => n - (intOf v).toNat)
  case atStart => exact ⟨0, Nat.zero_le _, Nat.zero_le _, rfl, Below.refl _ _, rfl⟩
  case round =>
    obtain ⟨k, hk, hk2, rfl, hbr, HE⟩ := hrel
    have hsr := hbr.size
    by_cases hgo : k < n ∧ k < n2
    · obtain ⟨g1, g2⟩ := hgo
      have p1 : (k : Int) < (n : Int) := by omega
      have p2 : (k : Int) < (n2 : Int) := by omega
      obtain ⟨bb, off, u, rfl, hbb, hu, hfu, c0, c1, cc2⟩ := (h.below (hbr.mono hB)).at_ g1
      obtain ⟨bb2, off2, v, rfl, hbb2, hv, hfv, d0, d1, d2⟩ := (h2.below (hbr.mono hB2)).at_ g2
      have HC := Lib.hid (fun W => cmp_any u v (HA.out u (List.mem_of_getElem? hu)) (HB.out v (List.mem_of_getElem? hv)) hfu.2.2.2.2 hfv.2.2.2.2 W)
      have HST : Hid (rowsV a b = if cmpV u v = 0 then rowsV (a.drop (k + 1)) (b.drop (k + 1)) else cmpV u v) := by
        show rowsV a b = _
        rw [HE.out, drop_at hu, drop_at hv]
        rfl
      clear hu hv hfu hfv
      obtain ⟨ku, nu, tu⟩ := u
      obtain ⟨kv, nv, tv⟩ := v
      have HC2 : Hid (∀ W, Calls Try.prog 31 #[.agg #[.int .i64 ku, .int .i64 nu, .string (strOf tu)], .agg #[.int .i64 kv, .int .i64 nv, .string (strOf tv)]] W fun e w' => e = .returned (.int .i64 (cmpV ⟨ku, nu, tu⟩ ⟨kv, nv, tv⟩)) ∧ Below W.heap.size W w') := HC
      clear HC
      generalize cmpV ⟨ku, nu, tu⟩ ⟨kv, nv, tv⟩ = r at *
      have e0 : wr.drew.cell? ⟨bb, off + k * 3, none⟩ = some (.int .i64 ku) := c0
      have e1 : wr.drew.cell? ⟨bb, off + k * 3 + 1, none⟩ = some (.int .i64 nu) := c1
      have e2 : wr.drew.cell? ⟨bb, off + k * 3 + 2, none⟩ = some (.string (strOf tu)) := cc2
      have f0 : wr.drew.cell? ⟨bb2, off2 + k * 3, none⟩ = some (.int .i64 kv) := d0
      have f1 : wr.drew.cell? ⟨bb2, off2 + k * 3 + 1, none⟩ = some (.int .i64 nv) := d1
      have f2 : wr.drew.cell? ⟨bb2, off2 + k * 3 + 2, none⟩ = some (.string (strOf tv)) := d2
      by_cases hr : r = 0
      · subst hr
        have HN : Hid (rowsV a b = rowsV (a.drop (k + 1)) (b.drop (k + 1))) := by
          show rowsV a b = _
          rw [HST.out, if_pos rfl]
        clear HST HE
        go_wp2_with fail
        go_region_with (go_at_call 31; refine (HC2.out _).mono ?_; rintro e wx ⟨rfl, hbx⟩; have hbx' := Below.trans (Below.drew hbr) (hbx.mono hsr); clear hbx)
        all_goals
          go_wp2_with fail
          go_roundw
          case rel => exact ⟨k + 1, by omega, by omega, by go_num, hbx', HN⟩
          case measure => simp [intOf]; omega
      · have HN : Hid (rowsV a b = r) := by
          show rowsV a b = r
          rw [HST.out, if_neg hr]
        clear HST HE
        go_wp2_with fail
        go_region_with (go_at_call 31; refine (HC2.out _).mono ?_; rintro e wx ⟨rfl, hbx⟩; have hbx' := Below.trans (Below.drew hbr) (hbx.mono hsr); clear hbx)
        all_goals
          go_wp2_with fail
          go_ret
          exact ⟨ret_i64 HN.out.symm, hbx'⟩
    · have hend : Hid (rowsV a b = if n < n2 then -1 else if n2 < n then 1 else 0) := by
        show rowsV a b = _
        rw [HE.out, rowsV_end k (by have := HL.out; have := HL2.out; omega) (by rw [HL.out]; exact hk) (by rw [HL2.out]; exact hk2), HL.out, HL2.out]
      have hg : ¬ ((k : Int) < (n : Int) ∧ (k : Int) < (n2 : Int)) := by omega
      clear HE hgo
      by_cases hlt : n < n2
      · have HN : Hid (rowsV a b = -1) := by
          show rowsV a b = -1
          rw [hend.out, if_pos hlt]
        have q : (n : Int) < (n2 : Int) := by omega
        clear hend
        go_wp2_with fail
        all_goals
          go_ret
          exact ⟨ret_i64 HN.out.symm, hbr⟩
      · by_cases hlt2 : n2 < n
        · have HN : Hid (rowsV a b = 1) := by
            show rowsV a b = 1
            rw [hend.out, if_neg hlt, if_pos hlt2]
          have q : ¬ (n : Int) < (n2 : Int) := by omega
          have q2 : (n2 : Int) < (n : Int) := by omega
          clear hend
          go_wp2_with fail
          all_goals
            go_ret
            exact ⟨ret_i64 HN.out.symm, hbr⟩
        · have HN : Hid (rowsV a b = 0) := by
            show rowsV a b = 0
            rw [hend.out, if_neg hlt, if_neg hlt2]
          have q : ¬ (n : Int) < (n2 : Int) := by omega
          have q2 : ¬ (n2 : Int) < (n : Int) := by omega
          clear hend
          go_wp2_with fail
          all_goals
            go_ret
            exact ⟨ret_i64 HN.out.symm, hbr⟩

attribute [local go_sem] strOf_list
def signB (x y : List UInt8) : Int := if Op.bytesLess x y = true then -1 else if x = y then 0 else 1
theorem sign_any (A : Option Addr) (n c : Nat) (l : List UInt8) (B : Nat) (A2 : Option Addr) (n2 c2 : Nat) (l2 : List UInt8) (B2 : Nat) (w : World) (h : Byt w B A n l) (h2 : Byt w B2 A2 n2 l2) :
    Calls Try.prog 18 #[.slice A n c, .slice A2 n2 c2] w fun e w' => e = .returned (.int .i64 (signB l l2)) ∧ w' = w := by
  have hs := run_str_byt (S := 9) Try.underlying25 Try.underlying5 Try.underlying9 w h c
  have hs2 := run_str_byt (S := 9) Try.underlying25 Try.underlying5 Try.underlying9 w h2 c2
  go_enter Try.func18, Try.ntmps18
  cases hless : Op.bytesLess l l2
  · by_cases heq : l = l2
    · have HN : Hid (signB l l2 = 0) := by
        show signB l l2 = 0
        unfold signB; rw [if_neg (by rw [hless]; decide), if_pos heq]
      have f : (l == l2) = true := by rw [heq]; simp
      clear heq
      go_wp2_with fail
      go_ret
      exact ⟨ret_i64 HN.out.symm, rfl⟩
    · have HN : Hid (signB l l2 = 1) := by
        show signB l l2 = 1
        unfold signB; rw [if_neg (by rw [hless]; decide), if_neg heq]
      have f : (l == l2) = false := by simpa using heq
      clear heq
      go_wp2_with fail
      go_ret
      exact ⟨ret_i64 HN.out.symm, rfl⟩
  · have HN : Hid (signB l l2 = -1) := by
      show signB l l2 = -1
      unfold signB; rw [if_pos hless]
    go_wp2_with fail
    go_ret
    exact ⟨ret_i64 HN.out.symm, rfl⟩
end Go.Proofs.Ytjmpolabpgmjpaa
