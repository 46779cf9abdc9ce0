/-
  The walks of cut, bytes.Equal, Unbig, bytes.IndexByte.
-/
import Derived.Test.YtjmpolabpgmjpaaSteps
import Derived.BigQuiet
namespace Go.Proofs.Ytjmpolabpgmjpaa
open Go.RowKit

/-- s[:K:K] and s[K:], the addresses hidden. -/
theorem cut_both {P : Program} {T E : TypeId} (hT : ByteTy P T E) (A : Option Addr) (m c K : Nat) (hK : K ≤ m) (hm : m ≤ c) :
    ∃ A1 A2, (∀ (k k2 : IntKind) (W : World), (Instr.slice T (.slice A m c) none (some (.int k (K : Int))) (some (.int k2 (K : Int)))).run P W = .ok (.slice A1 K K) W) ∧
      (∀ (k : IntKind) (W : World), (Instr.slice T (.slice A m c) (some (.int k (K : Int))) none none).run P W = .ok (.slice A2 (m - K) (c - K)) W) ∧
      ∀ (w : World) (B : Nat) (l : List UInt8), Byt w B A m l → Byt w B A1 K (l.take K) ∧ Byt w B A2 (m - K) (l.drop K) := by
  obtain ⟨i, hi, hz, hs, hb⟩ := hT.info
  have helem : P.elem T = E := by
    have := hT.sl
    simp [Program.elem, this]
  have hsz : ∀ W : World, (sizeOf E).run P W = .ok 1 W := by
    intro W
    simp [sizeOf, typeInfo, hi, hs]
  refine ⟨if K = 0 then A else A.map (·.add (0 * 1)), if c - K = 0 then A else A.map (·.add (K * 1)), fun k k2 W => ?_, fun k W => ?_, fun w B l h => ⟨?_, ?_⟩⟩
  · rw [run_slice_hm W T A m c (by rw [helem]; exact hT.sl) k k2 (K : Int) (K : Int) (by omega) (by omega) (by omega), helem, hsz]
    simp [Result.andThen, sliced]
  · rw [run_slice_l W T A m c (by rw [helem]; exact hT.sl) k (K : Int) (by omega) (by omega), helem, hsz]
    simp [Result.andThen, sliced]
    split <;> split <;> first | rfl | omega
  · have := h.mid (i := 0) (j := K) (A' := if K = 0 then A else A.map (·.add (0 * 1))) (by omega) hK (by
      rintro hlt b off rfl
      rw [if_neg (by omega)]
      simp [add_plain])
    simpa using this
  · have := h.mid (i := K) (j := m) (A' := if c - K = 0 then A else A.map (·.add (K * 1))) hK (Nat.le_refl _) (by
      rintro hlt b off rfl
      rw [if_neg (by omega)]
      simp [add_plain])
    rw [← h.len, List.take_length] at this
    rwa [h.len] at this

theorem cut_no (A : Option Addr) (n c K : Nat) (ki : Int) (hki : ki = (K : Int)) (w : World) (hK : n < K) :
    Calls Try.prog 33 #[.slice A n c, .int .i64 ki] w fun e w' => e = .returned (.tuple #[.slice none 0 0, .slice none 0 0, .bool false]) ∧ w' = w := by
  subst hki
  have q : (n : Int) < (K : Int) := by omega
  go_enter Try.func33, Try.ntmps33
  go_wp2_with fail
  go_ret3
  exact ⟨rfl, rfl⟩

/-- What cut answers where there are as many. -/
theorem cut_yes (A : Option Addr) (n c K : Nat) (ki : Int) (hki : ki = (K : Int)) (hK : K ≤ n) (hnc : n ≤ c) :
    ∃ A1 A2, (∀ (w : World) (B : Nat) (l : List UInt8), Byt w B A n l → Byt w B A1 K (l.take K) ∧ Byt w B A2 (n - K) (l.drop K)) ∧
      ∀ w : World, Calls Try.prog 33 #[.slice A n c, .int .i64 ki] w fun e w' => e = .returned (.tuple #[.slice A1 K K, .slice A2 (n - K) (c - K), .bool true]) ∧ ∃ m, w' = w.drewN m := by
  subst hki
  obtain ⟨A1, A2, h1, h2, h3⟩ := cut_both bty A n c K hK hnc
  refine ⟨A1, A2, h3, fun w => ?_⟩
  have q : ¬ (n : Int) < (K : Int) := by omega
  have H3 := Lib.hid h3
  clear h3
  go_enter Try.func33, Try.ntmps33
  go_wp2_with fail
  go_quiet (fail)
  go_wp2_with fail
  go_ret3
  exact ⟨rfl, _, rfl⟩

attribute [local go_sem] strOf_list
theorem equal_any (A : Option Addr) (n c : Nat) (l : List UInt8) (B : Nat) (A2 : Option Addr) (n2 c2 : Nat) (l2 : List UInt8) (B2 : Nat) (w : World) (h : Byt w B A n l) (h2 : Byt w B2 A2 n2 l2) :
    Calls Try.prog 35 #[.slice A n c, .slice A2 n2 c2] w fun e w' => e = .returned (.bool (l == l2)) ∧ w' = w := by
  have hs := run_str_byt (S := 9) Try.underlying25 Try.underlying5 Try.underlying9 w h c
  have hs2 := run_str_byt (S := 9) Try.underlying25 Try.underlying5 Try.underlying9 w h2 c2
  go_enter Try.func35, Try.ntmps35
  go_wp2_with fail
  go_ret
  exact ⟨rfl, rfl⟩
end Go.Proofs.Ytjmpolabpgmjpaa
