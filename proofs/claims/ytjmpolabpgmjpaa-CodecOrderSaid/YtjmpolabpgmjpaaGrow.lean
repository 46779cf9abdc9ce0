/-
  append once more, with one word more: every block but the slice's own one stays as it was.
-/
import Derived.Test.YtjmpolabpgmjpaaBig
namespace Go.Proofs.Ytjmpolabpgmjpaa
open Go.RowKit

/-- Every block of w but those of A stays. -/
def Stays (A : Option Addr) (w w' : World) : Prop := ∀ k, k < w.heap.size → (∀ a, A = some a → a.block ≠ k) → w'.heap[k]? = w.heap[k]?
theorem Stays.cell {A : Option Addr} {w w' : World} (h : Stays A w w') {p : Addr} {v : Value} (hp : p.block < w.heap.size) (hA : ∀ a, A = some a → a.block ≠ p.block) (hc : w.cell? p = some v) : w'.cell? p = some v :=
  (World.cell?_of_block (h p.block hp hA)).trans hc
theorem Stays.of_grown {A : Option Addr} {n c : Nat} {w w' : World} (h : w.grownBy w' (Value.ownBlock (.slice A n c))) : Stays A w w' := by
  intro k hk hA
  refine h.block k hk ?_
  cases A with
  | none => simp [Value.ownBlock]
  | some a =>
    intro e
    have : k = a.block := by simpa [Value.ownBlock] using e
    exact hA a rfl this.symm
theorem Own.blk {w : World} {base n c : Nat} {E : TypeId} {A : Option Addr} {l : List UInt8} (h : Own w base E A n c l) : ∀ a, A = some a → base ≤ a.block ∧ a.block < w.heap.size := by
  intro a ha
  subst ha
  exact World.ownsRow.lt h a.block rfl

section
variable {P : Program} {T E : TypeId}
theorem run_append_byt_k (hT : ByteTy P T E) (w : World) (ty : TypeId) {base n c B m c2 : Nat} {A A2 : Option Addr} {xs ys : List UInt8} (hown : Own w base E A n c xs) (hr : Byt w B A2 m ys) (h0 : 0 < m)
    (hnm : n + m ≤ 1099511627776) (hbase : base ≤ w.heap.size) :
    ∃ A' c' w', (Builtin.append_ #[T, T] ty #[.slice A n c, .slice A2 m c2]).run P w = .ok (.slice A' (n + m) c') w' ∧ Own w' base E A' (n + m) c' (xs ++ ys) ∧ Below base w w' ∧ Stays A w w' := by
  obtain ⟨i, hi, hz, hs, hb⟩ := hT.info
  have one : ∀ u ∈ ys.map u8v, u.oneCell' = true := by
    intro u hu
    obtain ⟨d, _, rfl⟩ := List.mem_map.1 hu
    rfl
  obtain ⟨b, off, rfl, _, hc⟩ := hr.2 h0
  obtain ⟨v', w', hrun, h2, h3, _, h5⟩ := run_append_own_at (P := P) w base T ty E i (.int .u8 0) 1 1 hT.sl hi hz hs hb rfl (by omega) (.slice A n c) n (xs.map u8v) hown ⟨b, off, none⟩ m c2 (ys.map u8v)
    (by rw [List.length_map, hr.1]; omega) (by
      intro j u hu
      rw [List.getElem?_map] at hu
      cases hy : ys[j]? with
      | none => rw [hy] at hu; cases hu
      | some d =>
        rw [hy] at hu
        injection hu with hu
        subst hu
        rw [add_plain]
        exact hc j d hy) one (by simp only [maxLen]; omega) (by omega) hbase
  have hform : ∃ A' c', v' = .slice A' (n + m) c' := by
    obtain ⟨g, cap, hv, _⟩ := World.ownsRow.form h2 (by omega)
    exact ⟨_, _, hv⟩
  obtain ⟨A', c', rfl⟩ := hform
  refine ⟨A', c', w', hrun, by unfold Own; rw [List.map_append]; exact h2, (Below.refl _ _).grown h3 hbase ?_, Stays.of_grown h3⟩
  intro k hk
  exact (World.ownsRow.lt hown k hk).1

theorem wp_append_byt_k {o : Oper} {a : Act} {K : Act → World → Prop} {Q : Exit → Act → World → Prop} (hT : ByteTy P T E) (w : World) (s x : Operand)
    (ho : o.op = .call { callee := .builtin .append, args := #[s, x], argTypes := #[T, T] }) {base n c B m c2 : Nat} {A A2 : Option Addr} {xs ys : List UInt8}
    (hs : a.eval s = .slice A n c) (hx : a.eval x = .slice A2 m c2) (hown : Own w base E A n c xs) (hr : Byt w B A2 m ys) (h0 : 0 < m)
    (hnm : n + m ≤ 1099511627776) (hbase : base ≤ w.heap.size)
    (h : ∀ A' c' w', Own w' base E A' (n + m) c' (xs ++ ys) → Below base w w' → Stays A w w' → K (a.put o.dst (.slice A' (n + m) c')) w') : o.wp P a w K Q := by
  obtain ⟨A', c', w', hrun, h2, h3, h4⟩ := run_append_byt_k hT w o.type (c2 := c2) hown hr h0 hnm hbase
  unfold Oper.wp execOp
  simp only [ho, resolve, invoke, builtin, Sem.run_bind, Sem.run_pure, Result.andThen_ok, List.map_toArray, List.map_cons, List.map_nil, hs, hx, hrun]
  exact h A' c' w' h2 h3 h4
theorem wpList_append_byt_k {ops : Array Oper} {rest : List Oper} {o : Oper} {a : Act} {Q : Exit → Act → World → Prop} (hT : ByteTy P T E) (w : World) (hgd : o.guard = none) (s x : Operand)
    (ho : o.op = .call { callee := .builtin .append, args := #[s, x], argTypes := #[T, T] }) {base n c B m c2 : Nat} {A A2 : Option Addr} {xs ys : List UInt8}
    (hs : a.eval s = .slice A n c) (hx : a.eval x = .slice A2 m c2) (hown : Own w base E A n c xs) (hr : Byt w B A2 m ys) (h0 : 0 < m)
    (hnm : n + m ≤ 1099511627776) (hbase : base ≤ w.heap.size)
    (h : ∀ A' c' w', Own w' base E A' (n + m) c' (xs ++ ys) → Below base w w' → Stays A w w' → wpList P ops Q rest (a.put o.dst (.slice A' (n + m) c')) w') : wpList P ops Q (o :: rest) a w :=
  wpList_plain hgd fun _ hK => wp_append_byt_k hT w s x ho hs hx hown hr h0 hnm hbase fun A' c' w' h2 h3 h4 => hK _ _ (h A' c' w' h2 h3 h4)
theorem step_append_byt_k {ops : Array Oper} {o : Oper} {a : Act} {K : Act → World → Prop} {Q : Exit → Act → World → Prop} {F : Prop} (hT : ByteTy P T E) (w : World) (hgd : o.guard = none) (s x : Operand)
    (ho : o.op = .call { callee := .builtin .append, args := #[s, x], argTypes := #[T, T] }) {base n c B m c2 : Nat} {A A2 : Option Addr} {xs ys : List UInt8}
    (hs : a.eval s = .slice A n c) (hx : a.eval x = .slice A2 m c2) (hown : Own w base E A n c xs) (hr : Byt w B A2 m ys) (h0 : 0 < m)
    (hnm : n + m ≤ 1099511627776) (hbase : base ≤ w.heap.size)
    (h : ∀ A' c' w', Own w' base E A' (n + m) c' (xs ++ ys) → Below base w w' → Stays A w w' → K (a.put o.dst (.slice A' (n + m) c')) w') :
    if Region.wanted o (yielded ops a.tmps) = true then Oper.wp P o a w K Q else F := by
  have hw : Region.wanted o (yielded ops a.tmps) = true := by simp [Region.wanted, hgd]
  rw [if_pos hw]
  exact wp_append_byt_k hT w s x ho hs hx hown hr h0 hnm hbase h
end
end Go.Proofs.Ytjmpolabpgmjpaa
