/-
  The walk of Values where both lists are the same.
-/
import Derived.Test.YtjmpolabpgmjpaaVmem
import Derived.Test.YtjmpolabpgmjpaaTot
import Derived.BigQuiet
namespace Go.Proofs.Ytjmpolabpgmjpaa
open Go.RowKit
attribute [local go_sem] strOf_list

set_option maxHeartbeats 800000 in
theorem same_any (A : Option Addr) (n c : Nat) (B : Nat) (A2 : Option Addr) (n2 c2 : Nat) (B2 : Nat) (vs : List Val) (w : World) (hn : n ≤ 9223372036854775807) (h : Vals w B A n vs) (h2 : Vals w B2 A2 n2 vs) :
    Calls Try.prog 22 #[.slice A n c, .slice A2 n2 c2] w fun e w' => e = .returned (.bool true) ∧ ∃ m, w' = w.drewN m := by
  obtain rfl : n2 = n := by rw [← h.len, ← h2.len]
  have HL := Lib.hid h.len
  go_enter Try.func22, Try.ntmps22
  go_wp2_with fail
  go_loopw [5] (fun v wr => ∃ k : Nat, k ≤ n2 ∧ v = .int .i64 k ∧ ∃ m, wr = w.drewN m) (fun v _ => n2 - (intOf v).toNat)
  case atStart => exact ⟨0, Nat.zero_le _, rfl, 0, rfl⟩
  case round =>
    obtain ⟨k, hk, rfl, m, rfl⟩ := hrel
    by_cases hlt : k < n2
    · obtain ⟨b, off, v, rfl, hb, hv, hf, hc0, hc1, hc2⟩ := h.at_ hlt
      obtain ⟨b2, off2, v2, rfl, hb2, hv2, hf2, hd0, hd1, hd2⟩ := h2.at_ hlt
      obtain rfl : v2 = v := by rw [hv] at hv2; injection hv2 with e; exact e.symm
      clear hv hv2 hf hf2
      have p1 : (k : Int) < (n2 : Int) := by omega
      go_wp2_with fail
      go_quiet (fail)
      go_wp2_with fail
      go_roundw
      case rel => exact ⟨k + 1, by omega, by go_num, m + nq, (by first | rfl | exact World.drewN_drewN _ _ _)⟩
      case measure => simp [intOf]; omega
    · obtain rfl : k = n2 := by omega
      go_wp2_with fail
      go_ret
      exact ⟨rfl, _, rfl⟩
end Go.Proofs.Ytjmpolabpgmjpaa
