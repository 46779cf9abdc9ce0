/-
  Values cut off, and (plain) what lies from a key up to what After gives.
-/
import Derived.Test.YtjmpolabpgmjpaaKey
import Derived.Test.YtjmpolabpgmjpaaTot
import Derived.BigQuiet
import Derived.WalkKit
namespace Go.Proofs.Ytjmpolabpgmjpaa

theorem Vals.take {w : World} {B n : Nat} {A : Option Addr} {vs : List Val} (h : Vals w B A n vs) (N : Nat) (hN : N ≤ n) : Vals w B A N (vs.take N) :=
  ⟨by rw [List.length_take, h.1]; omega, fun v hv => h.2.1 v (List.mem_of_mem_take hv), fun hn => by
    obtain ⟨b, off, e, hb, hc⟩ := h.2.2 (by omega)
    refine ⟨b, off, e, hb, fun j v hj => hc j v ?_⟩
    rw [List.getElem?_take] at hj
    split at hj
    · exact hj
    · cases hj⟩

theorem keyF_after (l : List Val) (h : ∀ v ∈ l, isV v = true) (hne : 0 < l.length) : 0 < afterN (keyF l) := by
  cases l with
  | nil => simp at hne
  | cons v r =>
    rcases aft_form (keyF (v :: r)) (keyF (v :: r)).length (Nat.le_refl _) with ⟨_, hall⟩ | ⟨m, hm, _⟩
    · have h0 := hall 0 (by simp [keyF, keyV])
      have h1 : UInt8.ofNat v.kind.toNat = 255 := by
        simpa [keyF, keyV] using h0
      exfalso
      rcases isV_cases v (h v (by simp)) with e | (e | e) | e | ⟨e, _⟩ <;> rw [e] at h1 <;> (first | (exact absurd (show UInt8.ofNat (0 : Int).toNat = 255 from h1) (by decide)) | (exact absurd (show UInt8.ofNat (1 : Int).toNat = 255 from h1) (by decide)) | (exact absurd (show UInt8.ofNat (2 : Int).toNat = 255 from h1) (by decide)) | (exact absurd (show UInt8.ofNat (3 : Int).toNat = 255 from h1) (by decide)))
    · unfold afterN; omega

theorem less_nil (r : List UInt8) : Op.bytesLess r [] = false := by cases r <;> rfl
theorem span_in (p k : List UInt8) (hz : 0 < afterN p) (h : k.take p.length = p) : Op.bytesLess k p = false ∧ Op.bytesLess k (afterB p) = true := by
  have hk : k = p ++ k.drop p.length := by
    conv => lhs; rw [← List.take_append_drop p.length k, h]
  rw [hk]
  refine ⟨?_, after_less p _ hz⟩
  conv => lhs; rw [← List.append_nil p]
  rw [List.append_nil, show Op.bytesLess (p ++ k.drop p.length) p = Op.bytesLess (p ++ k.drop p.length) (p ++ []) by rw [List.append_nil], less_left, less_nil]
theorem span_out (p k : List UInt8) (hz : 0 < afterN p) (h : ¬ k.take p.length = p) : Op.bytesLess k p = true ∨ (Op.bytesLess k p = false ∧ Op.bytesLess k (afterB p) = false) := by
  cases e : Op.bytesLess k p
  · right
    refine ⟨rfl, after_not_less p k hz (less_total k p e fun he => h ?_) h⟩
    rw [he, List.take_length]
  · left; rfl
theorem Own.ncap {w : World} {base n c : Nat} {E : TypeId} {A : Option Addr} {l : List UInt8} (h : Own w base E A n c l) : n ≤ c := by
  rcases h.2 with ⟨hv, hn⟩ | ⟨g, cap, cur, hv, _, hg, hnc, _⟩
  · injection hv with e1 e2 e3
    omega
  · injection hv with e1 e2 e3
    omega

attribute [local go_sem] strOf_list
/-- The document's Bytes: are they the same? -/
theorem bytes_any (A : Option Addr) (n c : Nat) (l : List UInt8) (B : Nat) (A2 : Option Addr) (n2 c2 : Nat) (l2 : List UInt8) (B2 : Nat) (w : World) (h : Byt w B A n l) (h2 : Byt w B2 A2 n2 l2) :
    Calls Try.prog 17 #[.slice A n c, .slice A2 n2 c2] w fun e w' => e = .returned (.bool (l == l2)) ∧ w' = w := by
  have hs := run_str_byt (S := 9) Try.underlying25 Try.underlying5 Try.underlying9 w h c
  have hs2 := run_str_byt (S := 9) Try.underlying25 Try.underlying5 Try.underlying9 w h2 c2
  go_enter Try.func17, Try.ntmps17
  go_wp2_with fail
  go_ret
  exact ⟨rfl, rfl⟩
end Go.Proofs.Ytjmpolabpgmjpaa
