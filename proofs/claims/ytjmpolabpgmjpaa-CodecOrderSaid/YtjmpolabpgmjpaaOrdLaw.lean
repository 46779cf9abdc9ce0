/-
  Keys stand as their rows do: plain mathematics.
-/
import Derived.Test.YtjmpolabpgmjpaaRows2
import Derived.Test.YtjmpolabpgmjpaaSteps
import Derived.Test.YtjmpolabpgmjpaaAftLaw
namespace Go.Proofs.Ytjmpolabpgmjpaa

theorem less_cons (a b : UInt8) (s t : List UInt8) : Op.bytesLess (a :: s) (b :: t) = (decide (a < b) || (a == b && Op.bytesLess s t)) := rfl
theorem less_irrefl (t : List UInt8) : Op.bytesLess t t = false := by
  have := less_left t [] []
  rw [List.append_nil] at this
  exact this
theorem less_append_ne : ∀ (s t x y : List UInt8), s.length = t.length → ¬ s = t → Op.bytesLess (s ++ x) (t ++ y) = Op.bytesLess s t := by
  intro s
  induction s with
  | nil =>
    intro t x y hl hn
    cases t with
    | nil => exact absurd rfl hn
    | cons b t => simp at hl
  | cons a s ih =>
    intro t x y hl hn
    cases t with
    | nil => simp at hl
    | cons b t =>
      rw [List.cons_append, List.cons_append, less_cons, less_cons]
      by_cases hab : a = b
      · subst hab
        rw [ih t x y (by simpa using hl) (fun e => hn (by rw [e]))]
      · have : (a == b) = false := by rw [beq_eq_false_iff_ne]; exact hab
        rw [this]
        simp
theorem less_zero : ∀ (s t x y : List UInt8), ¬ (0 : UInt8) ∈ s → ¬ (0 : UInt8) ∈ t → ¬ s = t → Op.bytesLess (s ++ 0 :: x) (t ++ 0 :: y) = Op.bytesLess s t := by
  intro s
  induction s with
  | nil =>
    intro t x y hs ht hn
    cases t with
    | nil => exact absurd rfl hn
    | cons b t =>
      rw [List.nil_append, List.cons_append, less_cons]
      have hb : ¬ b = 0 := fun e => ht (by rw [e]; simp)
      have hlt : (0 : UInt8) < b := by
        show (0 : UInt8).toNat < b.toNat
        have h0 : ¬ b.toNat = 0 := fun e => hb (UInt8.toNat_inj.1 e)
        have : (0 : UInt8).toNat = 0 := rfl
        omega
      rw [decide_eq_true hlt]
      rfl
  | cons a s ih =>
    intro t x y hs ht hn
    have ha : ¬ a = 0 := fun e => hs (by rw [e]; simp)
    cases t with
    | nil =>
      rw [List.nil_append, List.cons_append, less_cons]
      have hnl : ¬ a < 0 := fun h => by
        have : a.toNat < (0 : UInt8).toNat := h
        have h0 : (0 : UInt8).toNat = 0 := rfl
        omega
      have hne : (a == 0) = false := by rw [beq_eq_false_iff_ne]; exact ha
      rw [decide_eq_false hnl, hne]
      rfl
    | cons b t =>
      rw [List.cons_append, List.cons_append, less_cons, less_cons]
      by_cases hab : a = b
      · subst hab
        rw [ih t x y (fun h => hs (by simp [h])) (fun h => ht (by simp [h])) (fun e => hn (by rw [e]))]
      · have : (a == b) = false := by rw [beq_eq_false_iff_ne]; exact hab
        rw [this]
        simp

/-- What comes behind a value's tag. -/
def bodyV (v : Val) : List UInt8 := if v.kind = 1 then [UInt8.ofNat v.num.toNat] else if v.kind = 2 then beTo (BitVec.ofInt 64 v.num ^^^ 9223372036854775808#64) 8 8 else if v.kind = 3 then v.text ++ [0] else []
theorem keyV_body (v : Val) : keyV v = UInt8.ofNat v.kind.toNat :: bodyV v := rfl
theorem kind4 (v : Val) (h : isV v = true) : 0 ≤ v.kind ∧ v.kind ≤ 3 := by
  rcases isV_cases v h with e | (e | e) | e | ⟨e, _⟩ <;> rw [e] <;> simp
theorem tag_lt (a b : Int) (ha : 0 ≤ a ∧ a ≤ 3) (hb : 0 ≤ b ∧ b ≤ 3) : decide (UInt8.ofNat a.toNat < UInt8.ofNat b.toNat) = decide (a < b) ∧ (UInt8.ofNat a.toNat == UInt8.ofNat b.toNat) = decide (a = b) := by
  obtain ⟨m, rfl⟩ : ∃ m : Nat, a = (m : Int) := ⟨a.toNat, by omega⟩
  obtain ⟨k, rfl⟩ : ∃ k : Nat, b = (k : Int) := ⟨b.toNat, by omega⟩
  have hm : m < 4 := by omega
  have hk : k < 4 := by omega
  match m, k, hm, hk with
  | 0, 0, _, _ => decide
  | 0, 1, _, _ => decide
  | 0, 2, _, _ => decide
  | 0, 3, _, _ => decide
  | 1, 0, _, _ => decide
  | 1, 1, _, _ => decide
  | 1, 2, _, _ => decide
  | 1, 3, _, _ => decide
  | 2, 0, _, _ => decide
  | 2, 1, _, _ => decide
  | 2, 2, _, _ => decide
  | 2, 3, _, _ => decide
  | 3, 0, _, _ => decide
  | 3, 1, _, _ => decide
  | 3, 2, _, _ => decide
  | 3, 3, _, _ => decide

theorem body_order (u v : Val) (hu : okV u) (hv : okV v) (hk : u.kind = v.kind) (hne : ¬ u = v) (x y : List UInt8) :
    Op.bytesLess (bodyV u ++ x) (bodyV v ++ y) = (decide (u.num < v.num) || Op.bytesLess u.text v.text) := by
  rcases isV_cases u hu.1 with eu | (eu | eu) | eu | ⟨eu, eu1, eu2⟩
  · rcases isV_cases v hv.1 with ev | (ev | ev) | ev | ⟨ev, _, _⟩ <;> rw [eu, ev] at hk hne <;> first | exact absurd rfl hne | (simp at hk)
  · rcases isV_cases v hv.1 with ev | (ev | ev) | ev | ⟨ev, _, _⟩ <;> rw [eu, ev] at hk hne ⊢ <;> first | exact absurd rfl hne | (simp at hk; done) | rfl
  · rcases isV_cases v hv.1 with ev | (ev | ev) | ev | ⟨ev, _, _⟩ <;> rw [eu, ev] at hk hne ⊢ <;> first | exact absurd rfl hne | (simp at hk; done) | rfl
  · rcases isV_cases v hv.1 with ev | (ev | ev) | ev | ⟨ev, _, _⟩
    · rw [eu, ev] at hk; simp at hk
    · rw [eu, ev] at hk; simp at hk
    · rw [eu, ev] at hk; simp at hk
    · obtain ⟨ku, nu, tu⟩ := u
      obtain ⟨kv, nv, tv⟩ := v
      simp only [Val.mk.injEq, true_and] at eu ev
      obtain ⟨rfl, rfl⟩ := eu
      obtain ⟨rfl, rfl⟩ := ev
      have hnn : ¬ nu = nv := fun e => hne (by rw [e])
      have e1 : ∀ n : Int, bodyV ⟨2, n, []⟩ = beTo (BitVec.ofInt 64 n ^^^ 9223372036854775808#64) 8 8 := fun _ => rfl
      have t1 := turned nu hu.2.2.2.1 hu.2.2.2.2.1
      have t2 := turned nv hv.2.2.2.1 hv.2.2.2.2.1
      rw [e1, e1]
      generalize BitVec.ofInt 64 nu ^^^ 9223372036854775808#64 = X at *
      generalize BitVec.ofInt 64 nv ^^^ 9223372036854775808#64 = Y at *
      have hXY : ¬ beTo X 8 8 = beTo Y 8 8 := by
        intro e
        have := congrArg bev e
        rw [bev_be8, bev_be8] at this
        omega
      rw [less_append_ne _ _ x y (by rw [beTo_len, beTo_len]) hXY, less_bev _ _ (by rw [beTo_len, beTo_len]), bev_be8, bev_be8]
      show decide (X.toNat < Y.toNat) = (decide (nu < nv) || Op.bytesLess [] [])
      rw [show Op.bytesLess [] [] = false from rfl, Bool.or_false]
      rw [decide_eq_decide]
      omega
    · rw [eu, ev] at hk; simp at hk
  · rcases isV_cases v hv.1 with ev | (ev | ev) | ev | ⟨ev, ev1, ev2⟩
    · rw [eu, ev] at hk; simp at hk
    · rw [eu, ev] at hk; simp at hk
    · rw [eu, ev] at hk; simp at hk
    · rw [eu, ev] at hk; simp at hk
    · obtain ⟨ku, nu, tu⟩ := u
      obtain ⟨kv, nv, tv⟩ := v
      simp only [Val.mk.injEq, and_true] at eu ev
      obtain ⟨rfl, rfl⟩ := eu
      obtain ⟨rfl, rfl⟩ := ev
      have htt : ¬ tu = tv := fun e => hne (by rw [e])
      have e1 : ∀ (t z : List UInt8), bodyV ⟨3, 0, t⟩ ++ z = t ++ 0 :: z := by
        intro t z
        show (t ++ [0]) ++ z = _
        rw [List.append_assoc]; rfl
      rw [e1, e1, less_zero tu tv x y eu2 ev2 htt]
      rfl

theorem key_order (u v : Val) (hu : okV u) (hv : okV v) (hne : ¬ u = v) (x y : List UInt8) : Op.bytesLess (keyV u ++ x) (keyV v ++ y) = ltV u v := by
  obtain ⟨h1, h2⟩ := tag_lt u.kind v.kind (kind4 u hu.1) (kind4 v hv.1)
  rw [keyV_body, keyV_body, List.cons_append, List.cons_append, less_cons, h1, h2]
  unfold ltV
  by_cases hk : u.kind = v.kind
  · rw [body_order u v hu hv hk hne]
  · rw [decide_eq_false hk, Bool.false_and, Bool.false_and]
theorem ltV_irrefl (u : Val) : ltV u u = false := by
  unfold ltV
  rw [less_irrefl]
  simp
theorem cmpV_zero (u v : Val) (h : cmpV u v = 0) : u = v := by
  unfold cmpV at h
  split at h
  · cases h
  · split at h
    · rename_i h2
      obtain ⟨ku, nu, tu⟩ := u
      obtain ⟨kv, nv, tv⟩ := v
      obtain ⟨e1, e2, e3⟩ := h2
      simp only at e1 e2 e3
      rw [e1, e2, e3]
    · cases h
theorem cmpV_self (u : Val) : cmpV u u = 0 := by
  unfold cmpV
  rw [if_neg (by rw [ltV_irrefl]; decide), if_pos ⟨rfl, rfl, rfl⟩]
theorem cmpV_ne (u v : Val) (h : ¬ u = v) : cmpV u v = if ltV u v = true then -1 else 1 := by
  unfold cmpV
  by_cases hl : ltV u v = true
  · rw [if_pos hl, if_pos hl]
  · rw [if_neg hl, if_neg hl, if_neg]
    rintro ⟨e1, e2, e3⟩
    obtain ⟨ku, nu, tu⟩ := u
    obtain ⟨kv, nv, tv⟩ := v
    simp only at e1 e2 e3
    exact h (by rw [e1, e2, e3])

/-- Keys stand byte by byte as their rows do. -/
theorem key_rows : ∀ (a b : List Val), (∀ v ∈ a, okV v) → (∀ v ∈ b, okV v) → signB (keyF a) (keyF b) = rowsV a b := by
  intro a
  induction a with
  | nil =>
    intro b _ _
    cases b with
    | nil => rfl
    | cons v b => rfl
  | cons u a ih =>
    intro b ha hb
    cases b with
    | nil => rfl
    | cons v b =>
      have e1 : keyF (u :: a) = keyV u ++ keyF a := rfl
      have e2 : keyF (v :: b) = keyV v ++ keyF b := rfl
      have hu := ha u (by simp)
      have hv := hb v (by simp)
      rw [e1, e2]
      show _ = if cmpV u v = 0 then rowsV a b else cmpV u v
      by_cases huv : u = v
      · subst huv
        rw [if_pos (cmpV_self u), ← ih b (fun x hx => ha x (by simp [hx])) (fun x hx => hb x (by simp [hx]))]
        unfold signB
        rw [less_left]
        simp only [List.append_cancel_left_eq]
      · rw [if_neg (fun h => huv (cmpV_zero u v h)), cmpV_ne u v huv]
        unfold signB
        rw [key_order u v hu hv huv]
        have hne : ¬ keyV u ++ keyF a = keyV v ++ keyF b := by
          intro h
          have h1 := keyStep_key u (keyF a) hu
          rw [h, keyStep_key v _ hv] at h1
          simp only [Option.some.injEq, Prod.mk.injEq] at h1
          exact huv h1.1.symm
        rw [if_neg hne]
theorem rows_zero : ∀ (a b : List Val), rowsV a b = 0 → a = b := by
  intro a
  induction a with
  | nil =>
    intro b h
    cases b with
    | nil => rfl
    | cons v b => cases h
  | cons u a ih =>
    intro b h
    cases b with
    | nil => cases h
    | cons v b =>
      have h' : (if cmpV u v = 0 then rowsV a b else cmpV u v) = 0 := h
      by_cases hc : cmpV u v = 0
      · rw [if_pos hc] at h'
        rw [cmpV_zero u v hc, ih b h']
      · rw [if_neg hc] at h'
        exact absurd h' hc
theorem rows_self (a : List Val) : rowsV a a = 0 := by
  induction a with
  | nil => rfl
  | cons u a ih =>
    show (if cmpV u u = 0 then rowsV a a else cmpV u u) = 0
    rw [if_pos (cmpV_self u), ih]
theorem keyF_pre : ∀ (vs us : List Val) (x y : List UInt8), (∀ v ∈ vs, okV v) → (∀ v ∈ us, okV v) → vs.length = us.length → keyF vs ++ x = keyF us ++ y → vs = us := by
  intro vs
  induction vs with
  | nil =>
    intro us x y _ _ hl h
    cases us with
    | nil => rfl
    | cons u us => simp at hl
  | cons v vs ih =>
    intro us x y hv hu hl h
    cases us with
    | nil => simp at hl
    | cons u us =>
      have e1 : keyF (v :: vs) = keyV v ++ keyF vs := rfl
      have e2 : keyF (u :: us) = keyV u ++ keyF us := rfl
      rw [e1, e2, List.append_assoc, List.append_assoc] at h
      have h1 := keyStep_key v (keyF vs ++ x) (hv v (by simp))
      rw [h, keyStep_key u _ (hu u (by simp))] at h1
      simp only [Option.some.injEq, Prod.mk.injEq] at h1
      obtain ⟨rfl, h2⟩ := h1
      rw [ih us x y (fun v hm => hv v (by simp [hm])) (fun v hm => hu v (by simp [hm])) (by simpa using hl) h2.symm]
theorem keyF_split (a : List Val) (n : Nat) : keyF a = keyF (a.take n) ++ keyF (a.drop n) := by
  unfold keyF
  rw [← List.flatMap_append, List.take_append_drop]
/-- A key begins with that of its first values, and with no other row's of as many. -/
theorem begins_yes (a b : List Val) (n : Nat) (h : a.take n = b.take n) : (keyF a).take (keyF (b.take n)).length = keyF (b.take n) := by
  rw [keyF_split a n, h, List.take_left' rfl]
theorem begins_no (a b : List Val) (n : Nat) (ha : ∀ v ∈ a, okV v) (hb : ∀ v ∈ b, okV v) (hna : n ≤ a.length) (hnb : n ≤ b.length) (h : ¬ a.take n = b.take n) : ¬ (keyF a).take (keyF (b.take n)).length = keyF (b.take n) := by
  intro hh
  refine h (keyF_pre (a.take n) (b.take n) (keyF (a.drop n)) ((keyF a).drop (keyF (b.take n)).length) (fun v hv => ha v (List.mem_of_mem_take hv)) (fun v hv => hb v (List.mem_of_mem_take hv)) (by rw [List.length_take, List.length_take]; omega) ?_)
  rw [← keyF_split]
  conv => lhs; rw [← List.take_append_drop (keyF (b.take n)).length (keyF a), hh]
end Go.Proofs.Ytjmpolabpgmjpaa
