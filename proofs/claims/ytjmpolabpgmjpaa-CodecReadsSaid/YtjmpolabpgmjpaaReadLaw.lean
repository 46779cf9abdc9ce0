/-
  Reading rows and keys: what holds while it goes on. Plain mathematics.
-/
import Derived.Test.YtjmpolabpgmjpaaSteps
namespace Go.Proofs.Ytjmpolabpgmjpaa

def NoRow (b : List UInt8) : Prop := ∀ vs : List Val, (∀ v ∈ vs, okV v) → vs.length ≤ 8 → ¬ rowF vs = b
def NoKey (b : List UInt8) : Prop := ∀ vs : List Val, (∀ v ∈ vs, okV v) → vs.length ≤ 3 → ¬ keyF vs = b
/-- out has been read of b, n values are to come, from rest. -/
def InvR (b : List UInt8) (out : List Val) (n : Nat) (rest : List UInt8) : Prop :=
  (∀ v ∈ out, v.fits) ∧ (∀ vs : List Val, (∀ v ∈ vs, okV v) → vs.length ≤ 8 → rowF vs = b → ∃ us, vs = out ++ us ∧ us.length = n ∧ us.flatMap rowV = rest) ∧
  ((∀ v ∈ out, isV v = true) → ∃ c r, b = c :: r ∧ c.toNat = out.length + n ∧ r = out.flatMap rowV ++ rest)
theorem InvR.start (c : UInt8) (r : List UInt8) : InvR (c :: r) [] c.toNat r := by
  refine ⟨fun v h => (by cases h), fun vs hv hl h => ⟨vs, rfl, ?_, ?_⟩, fun _ => ⟨c, r, rfl, by simp, rfl⟩⟩
  · unfold rowF at h
    injection h with h1 h2
    rw [← h1, UInt8.toNat_ofNat_of_lt' (show vs.length < 256 by omega)]
  · unfold rowF at h
    injection h
theorem InvR.step {b : List UInt8} {out : List Val} {n : Nat} {rest rest' : List UInt8} {v : Val} (h : InvR b out (n + 1) rest) (hs : rowStep rest = some (v, rest')) : InvR b (out ++ [v]) n rest' := by
  refine ⟨fun u hu => ?_, fun vs hv hl hb => ?_, fun hall => ?_⟩
  · rcases List.mem_append.1 hu with hu | hu
    · exact h.1 u hu
    · rw [List.mem_singleton.1 hu]; exact (rowStep_fits _ _ _ hs).1
  · obtain ⟨us, rfl, hlen, hr⟩ := h.2.1 vs hv hl hb
    cases us with
    | nil => simp at hlen
    | cons u us =>
      rw [List.flatMap_cons] at hr
      rw [← hr, rowStep_row u _ (hv u (by simp))] at hs
      simp only [Option.some.injEq, Prod.mk.injEq] at hs
      obtain ⟨rfl, rfl⟩ := hs
      exact ⟨us, by simp, by simpa using hlen, rfl⟩
  · obtain ⟨c, r, hb, hc, hr⟩ := h.2.2 (fun u hu => hall u (by simp [hu]))
    have hv := hall v (by simp)
    exact ⟨c, r, hb, by rw [hc, List.length_append]; simp; omega, by rw [hr, rowStep_back _ _ _ hs hv]; simp⟩
theorem InvR.bad {b : List UInt8} {out : List Val} {n : Nat} {rest : List UInt8} (h : InvR b out (n + 1) rest) (hs : rowStep rest = none) : NoRow b := by
  intro vs hv hl hb
  obtain ⟨us, rfl, hlen, hr⟩ := h.2.1 vs hv hl hb
  cases us with
  | nil => simp at hlen
  | cons u us =>
    rw [List.flatMap_cons] at hr
    rw [← hr, rowStep_row u _ (hv u (by simp))] at hs
    cases hs
theorem InvR.done {b : List UInt8} {out : List Val} {rest : List UInt8} (h : InvR b out 0 rest) (vs : List Val) (hv : ∀ v ∈ vs, okV v) (hl : vs.length ≤ 8) (hb : rowF vs = b) : vs = out ∧ rest = [] := by
  obtain ⟨us, rfl, hlen, hr⟩ := h.2.1 vs hv hl hb
  have : us = [] := List.eq_nil_of_length_eq_zero hlen
  subst this
  exact ⟨by simp, by rw [← hr]; rfl⟩
theorem right_ok (vs : List Val) (most : Nat) (hv : ∀ v ∈ vs, okV v) (hl : vs.length ≤ most) : rightF vs most = 0 :=
  rightF_ok vs most hl (by rw [List.all_eq_true]; exact fun v h => (hv v h).1)
/-- The end, where what was read is laid again. -/
theorem InvR.wrong {b : List UInt8} {out : List Val} {rest : List UInt8} (h : InvR b out 0 rest) (hw : rightF out 8 ≠ 0) : NoRow b := by
  intro vs hv hl hb
  obtain ⟨rfl, _⟩ := h.done vs hv hl hb
  exact hw (right_ok vs 8 hv hl)
theorem InvR.other {b : List UInt8} {out : List Val} {rest : List UInt8} (h : InvR b out 0 rest) (hw : ¬ rowF out = b) : NoRow b := by
  intro vs hv hl hb
  obtain ⟨rfl, _⟩ := h.done vs hv hl hb
  exact hw hb
theorem InvR.long {b : List UInt8} {out : List Val} {rest : List UInt8} (h : InvR b out 0 rest) (hw : ¬ rest = []) : NoRow b := by
  intro vs hv hl hb
  exact hw (h.done vs hv hl hb).2
theorem InvR.good {b : List UInt8} {out : List Val} {rest : List UInt8} (h : InvR b out 0 rest) (hr : rightF out 8 = 0) : (∀ v ∈ out, okV v) ∧ out.length ≤ 8 := by
  rcases rightF_cases out 8 with ⟨_, hl, hall⟩ | hbad
  · exact ⟨fun v hv => ⟨hall v hv, h.1 v hv⟩, hl⟩
  · omega
theorem InvR.whole {b : List UInt8} {out : List Val} (h : InvR b out 0 []) (hr : rightF out 8 = 0) : rowF out = b := by
  obtain ⟨hok, hl⟩ := h.good hr
  obtain ⟨c, r, hb, hc, hr⟩ := h.2.2 (fun v hv => (hok v hv).1)
  rw [hb, hr]
  unfold rowF
  simp only [List.append_nil, List.cons.injEq, and_true]
  refine UInt8.toNat_inj.1 ?_
  rw [hc, UInt8.toNat_ofNat_of_lt' (show out.length < 256 by omega)]
  rfl

/-- out has been read of the key b, rest is to come. -/
def InvK (b : List UInt8) (out : List Val) (rest : List UInt8) : Prop :=
  (∀ v ∈ out, v.fits) ∧ (∀ vs : List Val, (∀ v ∈ vs, okV v) → vs.length ≤ 3 → keyF vs = b → ∃ us, vs = out ++ us ∧ keyF us = rest) ∧
  ((∀ v ∈ out, isV v = true) → b = keyF out ++ rest)
theorem InvK.start (b : List UInt8) : InvK b [] b := ⟨fun v h => (by cases h), fun vs hv hl h => ⟨vs, rfl, h⟩, fun _ => rfl⟩
theorem InvK.step {b : List UInt8} {out : List Val} {rest rest' : List UInt8} {v : Val} (h : InvK b out rest) (hl : rest.length ≤ 9223372036854775807) (hs : keyStep rest = some (v, rest')) : InvK b (out ++ [v]) rest' := by
  refine ⟨fun u hu => ?_, fun vs hv hl hb => ?_, fun hall => ?_⟩
  · rcases List.mem_append.1 hu with hu | hu
    · exact h.1 u hu
    · rw [List.mem_singleton.1 hu]; exact (keyStep_fits _ _ _ hs hl).1
  · obtain ⟨us, rfl, hr⟩ := h.2.1 vs hv hl hb
    cases us with
    | nil =>
      rw [← hr] at hs
      cases hs
    | cons u us =>
      have hr' : keyV u ++ keyF us = rest := hr
      rw [← hr', keyStep_key u _ (hv u (by simp))] at hs
      simp only [Option.some.injEq, Prod.mk.injEq] at hs
      obtain ⟨rfl, rfl⟩ := hs
      exact ⟨us, by simp, rfl⟩
  · have hb := h.2.2 (fun u hu => hall u (by simp [hu]))
    have hv := hall v (by simp)
    rw [hb, keyStep_back _ _ _ hs hv]
    simp [keyF]
theorem InvK.bad {b : List UInt8} {out : List Val} {rest : List UInt8} (h : InvK b out rest) (h0 : ¬ rest = []) (hs : keyStep rest = none) : NoKey b := by
  intro vs hv hl hb
  obtain ⟨us, rfl, hr⟩ := h.2.1 vs hv hl hb
  cases us with
  | nil => exact h0 hr.symm
  | cons u us =>
    have hr' : keyV u ++ keyF us = rest := hr
    rw [← hr', keyStep_key u _ (hv u (by simp))] at hs
    cases hs
/-- The end: nothing is left, or too many were read. -/
theorem InvK.wrong {b : List UInt8} {out : List Val} {rest : List UInt8} (h : InvK b out rest) (hw : rightF out 3 ≠ 0) (he : rest = [] ∨ 3 < out.length) : NoKey b := by
  intro vs hv hl hb
  obtain ⟨us, rfl, hr⟩ := h.2.1 vs hv hl hb
  rcases he with he | he
  · rw [he] at hr
    cases us with
    | cons u us => simp [keyF, keyV] at hr
    | nil =>
      rw [List.append_nil] at hv hl
      exact hw (right_ok out 3 hv hl)
  · rw [List.length_append] at hl
    omega
theorem InvK.other {b : List UInt8} {out : List Val} {rest : List UInt8} (h : InvK b out rest) (hw : ¬ keyF out = b) (he : rest = [] ∨ 3 < out.length) : NoKey b := by
  intro vs hv hl hb
  obtain ⟨us, rfl, hr⟩ := h.2.1 vs hv hl hb
  rcases he with he | he
  · rw [he] at hr
    cases us with
    | cons u us => simp [keyF, keyV] at hr
    | nil =>
      rw [List.append_nil] at hb
      exact hw hb
  · rw [List.length_append] at hl
    omega
theorem InvK.good {b : List UInt8} {out : List Val} {rest : List UInt8} (h : InvK b out rest) (hr : rightF out 3 = 0) : (∀ v ∈ out, okV v) ∧ out.length ≤ 3 := by
  rcases rightF_cases out 3 with ⟨_, hl, hall⟩ | hbad
  · exact ⟨fun v hv => ⟨hall v hv, h.1 v hv⟩, hl⟩
  · omega
theorem InvK.whole {b : List UInt8} {out : List Val} (h : InvK b out []) (hr : rightF out 3 = 0) : keyF out = b := by
  obtain ⟨hok, hl⟩ := h.good hr
  have := h.2.2 (fun v hv => (hok v hv).1)
  rw [this, List.append_nil]
end Go.Proofs.Ytjmpolabpgmjpaa
