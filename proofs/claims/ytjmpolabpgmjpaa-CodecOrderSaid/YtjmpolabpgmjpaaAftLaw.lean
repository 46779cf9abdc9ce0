/-
  What comes behind a prefix: plain mathematics.
-/
import Derived.Test.YtjmpolabpgmjpaaAfter
namespace Go.Proofs.Ytjmpolabpgmjpaa

theorem less_left (q x y : List UInt8) : Op.bytesLess (q ++ x) (q ++ y) = Op.bytesLess x y := by
  induction q with
  | nil => rfl
  | cons a q ih =>
    show (decide (a < a) || (a == a && Op.bytesLess (q ++ x) (q ++ y))) = _
    rw [ih]
    have : ¬ a < a := fun h => by have : a.toNat < a.toNat := h; omega
    simp [this]
theorem up_lt (c : UInt8) (h : c ≠ 255) : c < c + 1 ∧ ∀ o : UInt8, c < o → ¬ o < c + 1 := by
  have hc : c.toNat ≠ 255 := fun e => h (UInt8.toNat_inj.1 (by rw [e]; rfl))
  have hl := c.toNat_lt
  have hs : (c + 1).toNat = c.toNat + 1 := by
    rw [UInt8.toNat_add]
    have : (1 : UInt8).toNat = 1 := by decide
    rw [this]
    omega
  constructor
  · show c.toNat < (c + 1).toNat
    omega
  · intro o ho hh
    have h1 : c.toNat < o.toNat := ho
    have h2 : o.toNat < (c + 1).toNat := hh
    omega

/-- The form of a prefix: what stays, a byte that is no FF, and FFs. -/
theorem aft_form (l : List UInt8) : ∀ k, k ≤ l.length → (aft l k = 0 ∧ ∀ j, j < k → l[j]? = some 255) ∨
    (∃ m, aft l k = m + 1 ∧ m < k ∧ ∃ c, l[m]? = some c ∧ c ≠ 255 ∧ ∀ j, m < j → j < k → l[j]? = some 255) := by
  intro k
  induction k with
  | zero => intro _; left; exact ⟨rfl, fun j hj => by omega⟩
  | succ k ih =>
    intro hk
    simp only [aft]
    by_cases h : l[k]? = some 255
    · rw [if_pos h]
      rcases ih (by omega) with ⟨h0, hall⟩ | ⟨m, hm, hmk, c, hc, hne, hall⟩
      · left
        refine ⟨h0, fun j hj => ?_⟩
        by_cases e : j = k
        · subst e; exact h
        · exact hall j (by omega)
      · right
        refine ⟨m, hm, by omega, c, hc, hne, fun j h1 h2 => ?_⟩
        by_cases e : j = k
        · subst e; exact h
        · exact hall j h1 (by omega)
    · rw [if_neg h]
      right
      refine ⟨k, rfl, by omega, l[k], List.getElem?_eq_getElem (by omega), fun e => h (by rw [List.getElem?_eq_getElem (by omega), e]), fun j h1 h2 => by omega⟩
/-- All FFs: whatever stands behind begins so. -/
theorem ff_begins : ∀ (p o : List UInt8), (∀ x ∈ p, x = 255) → Op.bytesLess p o = true → o.take p.length = p := by
  intro p
  induction p with
  | nil => intro o _ _; rfl
  | cons a p ih =>
    intro o hall h
    have ha : a = 255 := hall a (by simp)
    subst ha
    match o, h with
    | b :: o, h =>
      have hb := b.toNat_lt
      have hnlt : ¬ (255 : UInt8) < b := fun hh => by have : (255 : UInt8).toNat < b.toNat := hh; have e : (255 : UInt8).toNat = 255 := by decide
                                                      omega
      simp only [Op.bytesLess, hnlt, decide_false, Bool.false_or, Bool.and_eq_true, beq_iff_eq] at h
      obtain ⟨rfl, h⟩ := h
      simp only [List.length_cons, List.take_succ_cons]
      rw [ih o (fun x hx => hall x (by simp [hx])) h]
theorem behind : ∀ (q : List UInt8) (c : UInt8) (r o : List UInt8), c ≠ 255 → (∀ x ∈ r, x = 255) → Op.bytesLess (q ++ c :: r) o = true → ¬ o.take (q ++ c :: r).length = q ++ c :: r → Op.bytesLess o (q ++ [c + 1]) = false := by
  intro q
  induction q with
  | nil =>
    intro c r o hc hr h hn
    match o, h with
    | b :: o, h =>
      simp only [List.nil_append] at h hn ⊢
      simp only [Op.bytesLess, Bool.or_eq_true, decide_eq_true_eq, Bool.and_eq_true, beq_iff_eq] at h
      rcases h with h | ⟨rfl, h⟩
      · have := (up_lt c hc).2 b h
        simp only [Op.bytesLess]
        simp [this]
      · exfalso
        apply hn
        simp only [List.length_cons, List.take_succ_cons]
        rw [ff_begins r o hr h]
  | cons a q ih =>
    intro c r o hc hr h hn
    match o, h with
    | b :: o, h =>
      simp only [List.cons_append] at h hn ⊢
      simp only [Op.bytesLess, Bool.or_eq_true, decide_eq_true_eq, Bool.and_eq_true, beq_iff_eq] at h
      rcases h with h | ⟨rfl, h⟩
      · have h1 : ¬ b < a := fun hh => by have e1 : a.toNat < b.toNat := h; have e2 : b.toNat < a.toNat := hh; omega
        have h2 : ¬ b = a := fun hh => by subst hh; have e1 : b.toNat < b.toNat := h; omega
        simp only [Op.bytesLess]
        simp [h1, h2]
      · have := ih c r o hc hr h (fun hh => hn (by simp only [List.length_cons, List.take_succ_cons]; rw [hh]))
        have h1 : ¬ a < a := fun hh => by have e1 : a.toNat < a.toNat := hh; omega
        simp only [Op.bytesLess]
        simp [h1, this]

theorem after_split (p : List UInt8) (h : 0 < afterN p) : ∃ q c r, p = q ++ c :: r ∧ c ≠ 255 ∧ (∀ x ∈ r, x = 255) ∧ afterB p = q ++ [c + 1] := by
  rcases aft_form p p.length (Nat.le_refl _) with ⟨h0, _⟩ | ⟨m, hm, hmk, c, hc, hne, hall⟩
  · unfold afterN at h; omega
  · have hp : p = p.take m ++ c :: p.drop (m + 1) := by
      have hcm : p[m] = c := by rw [List.getElem?_eq_getElem hmk] at hc; injection hc
      conv => lhs; rw [← List.take_append_drop m p, List.drop_eq_getElem_cons hmk, hcm]
    refine ⟨p.take m, c, p.drop (m + 1), hp, hne, ?_, ?_⟩
    · intro x hx
      obtain ⟨j, hj, he⟩ := List.mem_iff_getElem.1 hx
      rw [List.getElem_drop] at he
      rw [List.length_drop] at hj
      have := hall (m + 1 + j) (by omega) (by omega)
      rw [List.getElem?_eq_getElem (by omega)] at this
      injection this with this
      rw [← he, this]
    · unfold afterB
      have hN : afterN p = m + 1 := hm
      rw [hN, Nat.add_sub_cancel, hc]
      simp only [Option.getD_some]
      have ht : p.take (m + 1) = p.take m ++ [c] := by
        rw [List.take_add_one, hc]
        rfl
      rw [ht, List.set_append_right _ _ (by rw [List.length_take]; omega)]
      simp [List.length_take, Nat.min_eq_left (Nat.le_of_lt hmk)]
theorem after_less (p m : List UInt8) (h : 0 < afterN p) : Op.bytesLess (p ++ m) (afterB p) = true := by
  obtain ⟨q, c, r, hp, hc, _, hb⟩ := after_split p h
  rw [hb, hp, List.append_assoc, less_left]
  show (decide (c < c + 1) || _) = true
  simp [(up_lt c hc).1]
theorem after_none (p o : List UInt8) (h : afterN p = 0) (hl : Op.bytesLess p o = true) : o.take p.length = p := by
  rcases aft_form p p.length (Nat.le_refl _) with ⟨_, hall⟩ | ⟨m, hm, _⟩
  · refine ff_begins p o (fun x hx => ?_) hl
    obtain ⟨j, hj, he⟩ := List.mem_iff_getElem.1 hx
    have := hall j hj
    rw [List.getElem?_eq_getElem hj] at this
    injection this with this
    rw [← he, this]
  · unfold afterN at h; omega
theorem after_not_less (p o : List UInt8) (h : 0 < afterN p) (hl : Op.bytesLess p o = true) (hn : ¬ o.take p.length = p) : Op.bytesLess o (afterB p) = false := by
  obtain ⟨q, c, r, hp, hc, hr, hb⟩ := after_split p h
  rw [hb]
  rw [hp] at hl hn
  exact behind q c r o hc hr hl hn
end Go.Proofs.Ytjmpolabpgmjpaa
