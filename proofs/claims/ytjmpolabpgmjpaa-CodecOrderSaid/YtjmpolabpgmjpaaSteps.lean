/-
  One value read from bytes, of a row and of a key: plain mathematics.
-/
import Derived.Test.YtjmpolabpgmjpaaRow
import Derived.Test.YtjmpolabpgmjpaaOrd
import Derived.Test.YtjmpolabpgmjpaaTot
namespace Go.Proofs.Ytjmpolabpgmjpaa

theorem bev_inj (x y : List UInt8) (h : x.length = y.length) (e : bev x = bev y) : x = y := by
  by_cases hxy : x = y
  · exact hxy
  · have h1 : Op.bytesLess x y = false := by rw [less_bev x y h, e]; simp
    have h2 := less_total x y h1 hxy
    rw [less_bev y x h.symm, e] at h2
    simp at h2
theorem bev_deTo (l : List UInt8) : ∀ k, k ≤ 8 → k ≤ l.length → (deTo l k).toNat = bev (l.take k).reverse := by
  intro k
  induction k with
  | zero => intro _ _; simp [deTo, bev]
  | succ k ih =>
    intro h8 hl
    have hd : l[k]? = some l[k] := List.getElem?_eq_getElem (by omega)
    rw [deTo_sum l k (by omega) l[k] hd, ih (by omega) (by omega), List.take_add_one, hd]
    simp only [Option.toList_some, List.reverse_append, List.reverse_cons, List.reverse_nil, List.nil_append, List.singleton_append, bev]
    rw [List.length_reverse, List.length_take, Nat.min_eq_left (by omega), show (256 : Nat) = 2 ^ 8 from rfl, ← Nat.pow_mul]
    omega
theorem bev_deN (l : List UInt8) (h : l.length ≤ 8) : (deN l).toNat = bev l.reverse := by
  unfold deN
  rw [bev_deTo l l.length h (Nat.le_refl _), List.take_length]
theorem beTo_rev (x : BitVec 64) : beTo x 8 8 = (leN x 8).reverse := rfl
theorem leN_deN (l : List UInt8) (h : l.length = 8) : leN (deN l) 8 = l := by
  have h1 : beTo (deN l) 8 8 = l.reverse := by
    refine bev_inj _ _ (by rw [beTo_len, List.length_reverse, h]) ?_
    rw [bev_be8, bev_deN l (by omega)]
  rw [beTo_rev] at h1
  exact List.reverse_inj.1 h1
/-- The number of bytes, the highest first. -/
def deB (l : List UInt8) : BitVec 64 := BitVec.ofNat 64 (bev l)
theorem deB_nat (l : List UInt8) (h : l.length ≤ 8) : (deB l).toNat = bev l := by
  unfold deB
  rw [BitVec.toNat_ofNat]
  refine Nat.mod_eq_of_lt (Nat.lt_of_lt_of_le (bev_lt l) ?_)
  rw [show (256 : Nat) = 2 ^ 8 from rfl, ← Nat.pow_mul]
  exact Nat.pow_le_pow_right (by omega) (by omega)
theorem beTo_deB (l : List UInt8) (h : l.length = 8) : beTo (deB l) 8 8 = l := by
  refine bev_inj _ _ (by rw [beTo_len, h]) ?_
  rw [bev_be8, deB_nat l (by omega)]
theorem deB_beTo (x : BitVec 64) : deB (beTo x 8 8) = x := by
  unfold deB
  rw [bev_be8]
  simp
theorem toInt_ofInt (n : Int) (h0 : -9223372036854775808 ≤ n) (h1 : n ≤ 9223372036854775807) : (BitVec.ofInt 64 n).toInt = n := by
  rw [BitVec.toInt_ofInt]
  exact Int.bmod_eq_of_le (by simp; omega) (by simp; omega)
theorem toInt_range (x : BitVec 64) : -9223372036854775808 ≤ x.toInt ∧ x.toInt ≤ 9223372036854775807 := by
  have h1 := BitVec.le_toInt x
  have h2 := BitVec.toInt_lt (x := x)
  simp at h1 h2
  omega
theorem xor_back (x : BitVec 64) : x ^^^ 9223372036854775808#64 ^^^ 9223372036854775808#64 = x := by
  rw [BitVec.xor_assoc, BitVec.xor_self, BitVec.xor_zero]

/-- One value of a row. -/
def rowStep : List UInt8 → Option (Val × List UInt8)
  | [] => none
  | c :: r =>
    if c.toNat = 1 then (match r with | [] => none | d :: r2 => some (⟨1, d.toNat, []⟩, r2))
    else if c.toNat = 2 then (if r.length < 8 then none else some (⟨2, (deN (r.take 8)).toInt, []⟩, r.drop 8))
    else if c.toNat = 3 then (match r with | [] => none | d :: r2 => if r2.length < d.toNat then none else some (⟨3, 0, r2.take d.toNat⟩, r2.drop d.toNat))
    else some (⟨c.toNat, 0, []⟩, r)
/-- One value of a key. -/
def keyStep : List UInt8 → Option (Val × List UInt8)
  | [] => none
  | c :: r =>
    if c.toNat = 1 then (match r with | [] => none | d :: r2 => some (⟨1, d.toNat, []⟩, r2))
    else if c.toNat = 2 then (if r.length < 8 then none else some (⟨2, (deB (r.take 8) ^^^ 9223372036854775808#64).toInt, []⟩, r.drop 8))
    else if c.toNat = 3 then (if (0 : UInt8) ∈ r then some (⟨3, 0, r.takeWhile (fun x => x != 0)⟩, r.drop ((r.takeWhile (fun x => x != 0)).length + 1)) else none)
    else some (⟨c.toNat, 0, []⟩, r)

def okV (v : Val) : Prop := isV v = true ∧ v.fits

theorem rowStep_row (v : Val) (x : List UInt8) (h : okV v) : rowStep (rowV v ++ x) = some (v, x) := by
  obtain ⟨hv, hf⟩ := h
  rcases isV_cases v hv with rfl | (rfl | rfl) | hi | ⟨ht, ht1, ht2⟩
  · rfl
  · rfl
  · rfl
  · obtain ⟨kd, num, tx⟩ := v
    simp only [Val.mk.injEq, true_and] at hi
    obtain ⟨rfl, rfl⟩ := hi
    have e : rowV ⟨2, num, []⟩ ++ x = 2 :: (leN (BitVec.ofInt 64 num) 8 ++ x) := rfl
    rw [e]
    have h8 := leN_len (BitVec.ofInt 64 num) 8
    simp only [rowStep]
    rw [if_neg (by decide), if_pos (by decide), if_neg (by rw [List.length_append, h8]; omega), List.take_left' h8, List.drop_left' h8,
      deN_leN _ 8 (by have := (BitVec.ofInt 64 num).isLt; omega), toInt_ofInt num hf.2.2.1 hf.2.2.2.1]
  · obtain ⟨kd, num, tx⟩ := v
    simp only [Val.mk.injEq, and_true] at ht
    obtain ⟨rfl, rfl⟩ := ht
    have ht1' : tx.length ≤ 40 := ht1
    have e : rowV ⟨3, 0, tx⟩ ++ x = 3 :: UInt8.ofNat tx.length :: (tx ++ x) := rfl
    rw [e]
    have hl : (UInt8.ofNat tx.length).toNat = tx.length := UInt8.toNat_ofNat_of_lt' (show tx.length < 256 by omega)
    simp only [rowStep]
    rw [if_neg (by decide), if_neg (by decide), if_pos (by decide), hl, if_neg (by rw [List.length_append]; omega), List.take_left' rfl, List.drop_left' rfl]

theorem rowStep_back (b : List UInt8) (v : Val) (x : List UInt8) (h : rowStep b = some (v, x)) (hv : isV v = true) : b = rowV v ++ x := by
  cases b with
  | nil => cases h
  | cons c r =>
    have hc := c.toNat_lt
    simp only [rowStep] at h
    by_cases h1 : c.toNat = 1
    · have e1 : c = 1 := UInt8.toNat_inj.1 h1
      rw [if_pos h1] at h
      cases r with
      | nil => cases h
      | cons d r2 =>
        simp only [Option.some.injEq, Prod.mk.injEq] at h
        obtain ⟨rfl, rfl⟩ := h
        rw [e1]
        simp [rowV]
    · rw [if_neg h1] at h
      by_cases h2 : c.toNat = 2
      · have e1 : c = 2 := UInt8.toNat_inj.1 h2
        rw [if_pos h2] at h
        by_cases h8 : r.length < 8
        · rw [if_pos h8] at h; cases h
        · rw [if_neg h8] at h
          simp only [Option.some.injEq, Prod.mk.injEq] at h
          obtain ⟨rfl, rfl⟩ := h
          have e : rowV ⟨2, (deN (r.take 8)).toInt, []⟩ = 2 :: leN (BitVec.ofInt 64 (deN (r.take 8)).toInt) 8 := rfl
          rw [e, BitVec.ofInt_toInt, leN_deN _ (by rw [List.length_take]; omega), e1, List.cons_append, List.take_append_drop]
      · rw [if_neg h2] at h
        by_cases h3 : c.toNat = 3
        · have e1 : c = 3 := UInt8.toNat_inj.1 h3
          rw [if_pos h3] at h
          cases r with
          | nil => cases h
          | cons d r2 =>
            by_cases hd : r2.length < d.toNat
            · simp only [if_pos hd] at h; cases h
            · simp only [if_neg hd] at h
              simp only [Option.some.injEq, Prod.mk.injEq] at h
              obtain ⟨rfl, rfl⟩ := h
              have hl : (r2.take d.toNat).length = d.toNat := by rw [List.length_take]; omega
              have e : rowV ⟨3, 0, r2.take d.toNat⟩ = 3 :: UInt8.ofNat (r2.take d.toNat).length :: r2.take d.toNat := rfl
              rw [e, hl, e1]
              simp
        · rw [if_neg h3] at h
          simp only [Option.some.injEq, Prod.mk.injEq] at h
          obtain ⟨rfl, rfl⟩ := h
          by_cases h0 : c.toNat = 0
          · have e1 : c = 0 := UInt8.toNat_inj.1 h0
            rw [e1]
            rfl
          · rw [isV_else _ _ _ (by omega) (by omega) (by omega) (by omega)] at hv
            cases hv

theorem rowStep_fits (b : List UInt8) (v : Val) (x : List UInt8) (h : rowStep b = some (v, x)) : v.fits ∧ x.length < b.length := by
  cases b with
  | nil => cases h
  | cons c r =>
    have hc : c.toNat < 256 := c.toNat_lt
    simp only [rowStep] at h
    by_cases h1 : c.toNat = 1
    · rw [if_pos h1] at h
      cases r with
      | nil => cases h
      | cons d r2 =>
        simp only [Option.some.injEq, Prod.mk.injEq] at h
        obtain ⟨rfl, rfl⟩ := h
        have hd : d.toNat < 256 := d.toNat_lt
        exact ⟨⟨by simp, by simp, by simp, by simp; omega, by simp⟩, by simp; omega⟩
    · rw [if_neg h1] at h
      by_cases h2 : c.toNat = 2
      · rw [if_pos h2] at h
        by_cases h8 : r.length < 8
        · rw [if_pos h8] at h; cases h
        · rw [if_neg h8] at h
          simp only [Option.some.injEq, Prod.mk.injEq] at h
          obtain ⟨rfl, rfl⟩ := h
          exact ⟨⟨by simp, by simp, (toInt_range _).1, (toInt_range _).2, by simp⟩, by simp; omega⟩
      · rw [if_neg h2] at h
        by_cases h3 : c.toNat = 3
        · rw [if_pos h3] at h
          cases r with
          | nil => cases h
          | cons d r2 =>
            have hd : d.toNat < 256 := d.toNat_lt
            by_cases hl : r2.length < d.toNat
            · simp only [if_pos hl] at h; cases h
            · simp only [if_neg hl] at h
              simp only [Option.some.injEq, Prod.mk.injEq] at h
              obtain ⟨rfl, rfl⟩ := h
              exact ⟨⟨by simp, by simp, by simp, by simp, by simp; omega⟩, by simp; omega⟩
        · rw [if_neg h3] at h
          simp only [Option.some.injEq, Prod.mk.injEq] at h
          obtain ⟨rfl, rfl⟩ := h
          exact ⟨⟨by simp, by simp; omega, by simp, by simp, by simp⟩, by simp⟩
theorem takeWhile_pre (t x : List UInt8) (h : ¬ (0 : UInt8) ∈ t) : (t ++ 0 :: x).takeWhile (fun y => y != 0) = t := by
  induction t with
  | nil => rfl
  | cons a t ih =>
    have ha : a ≠ 0 := fun e => h (by rw [e]; simp)
    rw [List.cons_append, List.takeWhile_cons, if_pos (by simpa using ha), ih (fun hm => h (by simp [hm]))]
theorem takeWhile_split (r : List UInt8) (h : (0 : UInt8) ∈ r) : r = r.takeWhile (fun y => y != 0) ++ 0 :: r.drop ((r.takeWhile (fun y => y != 0)).length + 1) := by
  induction r with
  | nil => cases h
  | cons a r ih =>
    by_cases ha : a = 0
    · subst ha; rfl
    · have hm : (0 : UInt8) ∈ r := by
        rcases List.mem_cons.1 h with e | hm
        · exact absurd e.symm ha
        · exact hm
      rw [List.takeWhile_cons, if_pos (by simpa using ha), List.cons_append, List.length_cons, List.drop_succ_cons, ← ih hm]

theorem keyStep_key (v : Val) (x : List UInt8) (h : okV v) : keyStep (keyV v ++ x) = some (v, x) := by
  obtain ⟨hv, hf⟩ := h
  rcases isV_cases v hv with rfl | (rfl | rfl) | hi | ⟨ht, ht1, ht2⟩
  · rfl
  · rfl
  · rfl
  · obtain ⟨kd, num, tx⟩ := v
    simp only [Val.mk.injEq, true_and] at hi
    obtain ⟨rfl, rfl⟩ := hi
    have e : keyV ⟨2, num, []⟩ ++ x = 2 :: (beTo (BitVec.ofInt 64 num ^^^ 9223372036854775808#64) 8 8 ++ x) := rfl
    rw [e]
    have h8 := beTo_len (BitVec.ofInt 64 num ^^^ 9223372036854775808#64) 8 8
    simp only [keyStep]
    rw [if_neg (by decide), if_pos (by decide), if_neg (by rw [List.length_append, h8]; omega), List.take_left' h8, List.drop_left' h8, deB_beTo, xor_back, toInt_ofInt num hf.2.2.1 hf.2.2.2.1]
  · obtain ⟨kd, num, tx⟩ := v
    simp only [Val.mk.injEq, and_true] at ht
    obtain ⟨rfl, rfl⟩ := ht
    have e : keyV ⟨3, 0, tx⟩ ++ x = 3 :: (tx ++ 0 :: x) := by
      show 3 :: ((tx ++ [0]) ++ x) = _
      rw [List.append_assoc]; rfl
    rw [e]
    simp only [keyStep]
    rw [if_neg (by decide), if_neg (by decide), if_pos (by decide), if_pos (by simp), takeWhile_pre tx x ht2]
    simp

theorem keyStep_back (b : List UInt8) (v : Val) (x : List UInt8) (h : keyStep b = some (v, x)) (hv : isV v = true) : b = keyV v ++ x := by
  cases b with
  | nil => cases h
  | cons c r =>
    have hc : c.toNat < 256 := c.toNat_lt
    simp only [keyStep] at h
    by_cases h1 : c.toNat = 1
    · have e1 : c = 1 := UInt8.toNat_inj.1 h1
      rw [if_pos h1] at h
      cases r with
      | nil => cases h
      | cons d r2 =>
        simp only [Option.some.injEq, Prod.mk.injEq] at h
        obtain ⟨rfl, rfl⟩ := h
        rw [e1]
        simp [keyV]
    · rw [if_neg h1] at h
      by_cases h2 : c.toNat = 2
      · have e1 : c = 2 := UInt8.toNat_inj.1 h2
        rw [if_pos h2] at h
        by_cases h8 : r.length < 8
        · rw [if_pos h8] at h; cases h
        · rw [if_neg h8] at h
          simp only [Option.some.injEq, Prod.mk.injEq] at h
          obtain ⟨rfl, rfl⟩ := h
          have e : keyV ⟨2, (deB (r.take 8) ^^^ 9223372036854775808#64).toInt, []⟩ = 2 :: beTo (BitVec.ofInt 64 (deB (r.take 8) ^^^ 9223372036854775808#64).toInt ^^^ 9223372036854775808#64) 8 8 := rfl
          rw [e, BitVec.ofInt_toInt, xor_back, beTo_deB _ (by rw [List.length_take]; omega), e1, List.cons_append, List.take_append_drop]
      · rw [if_neg h2] at h
        by_cases h3 : c.toNat = 3
        · have e1 : c = 3 := UInt8.toNat_inj.1 h3
          rw [if_pos h3] at h
          by_cases hm : (0 : UInt8) ∈ r
          · rw [if_pos hm] at h
            simp only [Option.some.injEq, Prod.mk.injEq] at h
            obtain ⟨rfl, rfl⟩ := h
            have e : ∀ t : List UInt8, ∀ y, keyV ⟨3, 0, t⟩ ++ y = 3 :: (t ++ 0 :: y) := by
              intro t y
              show 3 :: ((t ++ [0]) ++ y) = _
              rw [List.append_assoc]; rfl
            rw [e, ← takeWhile_split r hm, e1]
          · rw [if_neg hm] at h; cases h
        · rw [if_neg h3] at h
          simp only [Option.some.injEq, Prod.mk.injEq] at h
          obtain ⟨rfl, rfl⟩ := h
          by_cases h0 : c.toNat = 0
          · have e1 : c = 0 := UInt8.toNat_inj.1 h0
            rw [e1]
            rfl
          · rw [isV_else _ _ _ (by omega) (by omega) (by omega) (by omega)] at hv
            cases hv

theorem keyStep_fits (b : List UInt8) (v : Val) (x : List UInt8) (h : keyStep b = some (v, x)) (hb : b.length ≤ 9223372036854775807) : v.fits ∧ x.length < b.length := by
  cases b with
  | nil => cases h
  | cons c r =>
    have hc : c.toNat < 256 := c.toNat_lt
    simp only [keyStep] at h
    by_cases h1 : c.toNat = 1
    · rw [if_pos h1] at h
      cases r with
      | nil => cases h
      | cons d r2 =>
        simp only [Option.some.injEq, Prod.mk.injEq] at h
        obtain ⟨rfl, rfl⟩ := h
        have hd : d.toNat < 256 := d.toNat_lt
        exact ⟨⟨by simp, by simp, by simp, by simp; omega, by simp⟩, by simp; omega⟩
    · rw [if_neg h1] at h
      by_cases h2 : c.toNat = 2
      · rw [if_pos h2] at h
        by_cases h8 : r.length < 8
        · rw [if_pos h8] at h; cases h
        · rw [if_neg h8] at h
          simp only [Option.some.injEq, Prod.mk.injEq] at h
          obtain ⟨rfl, rfl⟩ := h
          exact ⟨⟨by simp, by simp, (toInt_range _).1, (toInt_range _).2, by simp⟩, by simp; omega⟩
      · rw [if_neg h2] at h
        by_cases h3 : c.toNat = 3
        · rw [if_pos h3] at h
          by_cases hm : (0 : UInt8) ∈ r
          · rw [if_pos hm] at h
            simp only [Option.some.injEq, Prod.mk.injEq] at h
            obtain ⟨rfl, rfl⟩ := h
            have hl := congrArg List.length (takeWhile_split r hm)
            rw [List.length_append, List.length_cons] at hl
            rw [List.length_cons] at hb
            exact ⟨⟨by simp, by simp, by simp, by simp, by show (r.takeWhile _).length ≤ _; omega⟩, by simp; omega⟩
          · rw [if_neg hm] at h; cases h
        · rw [if_neg h3] at h
          simp only [Option.some.injEq, Prod.mk.injEq] at h
          obtain ⟨rfl, rfl⟩ := h
          exact ⟨⟨by simp, by simp; omega, by simp, by simp, by simp⟩, by simp⟩

/-- Rows and keys are of their values alone. -/
theorem rowF_pre : ∀ (vs us : List Val) (x y : List UInt8), (∀ v ∈ vs, okV v) → (∀ v ∈ us, okV v) → vs.length = us.length → vs.flatMap rowV ++ x = us.flatMap rowV ++ y → vs = us ∧ x = y := by
  intro vs
  induction vs with
  | nil =>
    intro us x y _ _ hl h
    cases us with
    | nil => exact ⟨rfl, h⟩
    | cons u us => simp at hl
  | cons v vs ih =>
    intro us x y hv hu hl h
    cases us with
    | nil => simp at hl
    | cons u us =>
      rw [List.flatMap_cons, List.flatMap_cons, List.append_assoc, List.append_assoc] at h
      have h1 := rowStep_row v (vs.flatMap rowV ++ x) (hv v (by simp))
      rw [h, rowStep_row u _ (hu u (by simp))] at h1
      simp only [Option.some.injEq, Prod.mk.injEq] at h1
      obtain ⟨rfl, h2⟩ := h1
      obtain ⟨rfl, h3⟩ := ih us x y (fun v hm => hv v (by simp [hm])) (fun v hm => hu v (by simp [hm])) (by simpa using hl) h2.symm
      exact ⟨rfl, h3⟩
theorem keyF_inj : ∀ (vs us : List Val), (∀ v ∈ vs, okV v) → (∀ v ∈ us, okV v) → keyF vs = keyF us → vs = us := by
  intro vs
  induction vs with
  | nil =>
    intro us _ _ h
    cases us with
    | nil => rfl
    | cons u us => simp [keyF, keyV] at h
  | cons v vs ih =>
    intro us hv hu h
    cases us with
    | nil => simp [keyF, keyV] at h
    | cons u us =>
      have h' : keyV v ++ keyF vs = keyV u ++ keyF us := h
      have h1 := keyStep_key v (keyF vs) (hv v (by simp))
      rw [h', keyStep_key u _ (hu u (by simp))] at h1
      simp only [Option.some.injEq, Prod.mk.injEq] at h1
      obtain ⟨rfl, h2⟩ := h1
      rw [ih us (fun v hm => hv v (by simp [hm])) (fun v hm => hu v (by simp [hm])) h2.symm]
theorem rowF_inj (vs us : List Val) (x y : List UInt8) (hv : ∀ v ∈ vs, okV v) (hu : ∀ v ∈ us, okV v) (h1 : vs.length ≤ 8) (h2 : us.length ≤ 8) (h : rowF vs ++ x = rowF us ++ y) : vs = us ∧ x = y := by
  have h' : UInt8.ofNat vs.length :: (vs.flatMap rowV ++ x) = UInt8.ofNat us.length :: (us.flatMap rowV ++ y) := h
  injection h' with e1 e2
  have e3 : vs.length = us.length := by
    have := congrArg UInt8.toNat e1
    rw [UInt8.toNat_ofNat_of_lt' (show vs.length < 256 by omega), UInt8.toNat_ofNat_of_lt' (show us.length < 256 by omega)] at this
    exact this
  exact rowF_pre vs us x y hv hu e3 e2
end Go.Proofs.Ytjmpolabpgmjpaa
