/-
  A slice of values of the call's own, and a value appended to it.
-/
import Derived.Test.YtjmpolabpgmjpaaRow
namespace Go.Proofs.Ytjmpolabpgmjpaa
open Go.RowKit

def cells3 (v : Val) : List Value := [.int .i64 v.kind, .int .i64 v.num, .string (strOf v.text)]
theorem flat3_len (vs : List Val) : (vs.flatMap cells3).length = vs.length * 3 := by
  induction vs with
  | nil => rfl
  | cons v vs ih => rw [List.flatMap_cons, List.length_append, ih]; simp [cells3]; omega
theorem flat3_at (vs : List Val) : ∀ (k : Nat) (v : Val) (i : Nat), i < 3 → vs[k]? = some v → (vs.flatMap cells3)[k * 3 + i]? = (cells3 v)[i]? := by
  induction vs with
  | nil => intro k v i hi h; cases h
  | cons u vs ih =>
    intro k v i hi h
    rw [List.flatMap_cons]
    cases k with
    | zero =>
      simp at h
      subst h
      rw [List.getElem?_append_left (by simp [cells3]; omega)]
      simp
    | succ k =>
      simp at h
      rw [List.getElem?_append_right (by simp [cells3]; omega)]
      have : (k + 1) * 3 + i - (cells3 u).length = k * 3 + i := by simp [cells3]; omega
      rw [this]
      exact ih k v i hi h

/-- Values in a block of the call's own. -/
def OwnV (w : World) (base : Nat) (A : Option Addr) (n c : Nat) (vs : List Val) : Prop :=
  w.ownsRow base 36 3 (.slice A n c) n (vs.flatMap cells3)
theorem OwnV.nil_ (w : World) (base : Nat) : OwnV w base none 0 0 [] := World.ownsRow_nil w base 36 3
theorem OwnV.alloc {w : World} {base n c : Nat} {A : Option Addr} {vs : List Val} (h : OwnV w base A n c vs) (o : Obj) : OwnV (w.alloc o) base A n c vs := World.ownsRow.alloc h o
theorem OwnV.drew {w : World} {base n c : Nat} {A : Option Addr} {vs : List Val} (h : OwnV w base A n c vs) : OwnV w.drew base A n c vs := h
theorem OwnV.drewN {w : World} {base n c : Nat} {A : Option Addr} {vs : List Val} (h : OwnV w base A n c vs) (k : Nat) : OwnV (w.drewN k) base A n c vs := h
theorem OwnV.base_ {w : World} {base base' n c : Nat} {A : Option Addr} {vs : List Val} (h : OwnV w base A n c vs) (hb : base' ≤ base) : OwnV w base' A n c vs := by
  refine ⟨h.1, ?_⟩
  rcases h.2 with h0 | ⟨g, cap, cur, h1, h2, h3⟩
  · exact .inl h0
  · exact .inr ⟨g, cap, cur, h1, Nat.le_trans hb h2, h3⟩
theorem OwnV.below {w w' : World} {base n c : Nat} {A : Option Addr} {vs : List Val} (h : OwnV w base A n c vs) (hb : Below w.heap.size w w') : OwnV w' base A n c vs := by
  refine World.ownsRow.kept (row := none) h ⟨hb.os, hb.tape, hb.output, hb.size, fun k hk _ => hb.block k hk⟩ ?_
  cases A with
  | none => exact .inl rfl
  | some a => exact .inr (by simp [Value.ownBlock])
/-- A store elsewhere. -/
theorem OwnV.setCell {w : World} {base n c : Nat} {A : Option Addr} {vs : List Val} (h : OwnV w base A n c vs) {a : Addr} (ha : ∀ x, A = some x → x.block ≠ a.block) (u : Value) : OwnV (w.setCell a u) base A n c vs := by
  refine ownsRow_setCell_other h ?_ u
  cases A with
  | none => simp [Value.ownBlock]
  | some x =>
    intro e
    exact ha x rfl (by simpa [Value.ownBlock] using e)
theorem OwnV.blk {w : World} {base n c : Nat} {A : Option Addr} {vs : List Val} (h : OwnV w base A n c vs) : ∀ a, A = some a → base ≤ a.block ∧ a.block < w.heap.size := by
  intro a ha
  subst ha
  exact World.ownsRow.lt h a.block rfl
theorem OwnV.len {w : World} {base n c : Nat} {A : Option Addr} {vs : List Val} (h : OwnV w base A n c vs) : vs.length = n := by
  have := h.1
  rw [flat3_len] at this
  omega
theorem OwnV.vals {w : World} {base n c : Nat} {A : Option Addr} {vs : List Val} (h : OwnV w base A n c vs) (hf : ∀ v ∈ vs, v.fits) : Vals w w.heap.size A n vs := by
  refine ⟨h.len, hf, fun hn => ?_⟩
  obtain ⟨g, cap, hv, _, hlt⟩ := World.ownsRow.form h hn
  have hA : A = some ⟨g, 0, none⟩ := by injection hv
  subst hA
  refine ⟨g, 0, rfl, hlt, fun k v hk => ?_⟩
  have key : ∀ i u, i < 3 → (cells3 v)[i]? = some u → w.cell? ⟨g, 0 + (k * 3 + i), none⟩ = some u := by
    intro i u hi hu
    have := World.ownsRow.cells h (g := g) rfl (k * 3 + i) u (by rw [flat3_at vs k v i hi hk, hu])
    rw [add_plain] at this
    exact this
  refine ⟨?_, ?_, ?_⟩
  · exact key 0 _ (by omega) rfl
  · exact key 1 _ (by omega) rfl
  · exact key 2 _ (by omega) rfl

/-- A value's block is none of the values' own, where it came later. -/
theorem ty36 : ∃ i, Try.prog.info? 36 = some i ∧ i.zero = some (.agg #[.int .i64 0, .int .i64 0, .string (strOf [])]) ∧ i.size = 3 ∧ i.bytes = 32 := by
  obtain ⟨i0, hi, hz0, hz1, hz2⟩ := info_parts (show (Try.prog.info? 36).map (fun i => (i.zero, i.size, i.bytes)) = some (some (.agg #[.int .i64 0, .int .i64 0, .string (strOf [])]), 3, 32) by kernel_rfl)
  exact ⟨i0, hi, hz0, hz1, hz2⟩

theorem lit_cell (w : World) (C : Array Value) (T : TypeId) (i : Nat) : (w.alloc (.cells C T)).cell? ⟨w.heap.size, i, none⟩ = C[i]? :=
  cell_of_row _ w.heap.size i C T (0, 0) (heap_alloc_new w _)

theorem run_append_val (w : World) (ty : TypeId) {base n c : Nat} {A : Option Addr} {vs : List Val} (v : Val) (k : Int) (m : Int) (s : ByteArray) (hk : k = v.kind) (hm : m = v.num) (hs : s = strOf v.text) (hown : OwnV w base A n c vs)
    (hnm : n ≤ 1000000) (hbase : base ≤ w.heap.size) :
    ∃ A' c' w', (Builtin.append_ #[22, 22] ty #[.slice A n c, .slice (some ⟨w.heap.size, 0, none⟩) 1 1]).run Try.prog (w.alloc (.cells #[.int .i64 k, .int .i64 m, .string s] 36)) = .ok (.slice A' (n + 1) c') w' ∧ OwnV w' base A' (n + 1) c' (vs ++ [v]) ∧ Below base w w' := by
  subst hk hm hs
  obtain ⟨i, hi, hz, hsz, hb⟩ := ty36
  obtain ⟨v', w', hrun, h2, h3, _, h5⟩ := run_append_own_at (P := Try.prog) (w.alloc (.cells #[.int .i64 v.kind, .int .i64 v.num, .string (strOf v.text)] 36)) base 22 ty 36 i _ 3 32 Try.underlying22 hi hz hsz hb rfl (by omega) (.slice A n c) n _ (hown.alloc _) ⟨w.heap.size, 0, none⟩ 1 1 (cells3 v)
    (by simp [cells3]) (by
      intro j u hu
      rw [add_plain, Nat.zero_add, lit_cell]
      simpa [cells3] using hu) (by
      intro u hu
      simp [cells3] at hu
      rcases hu with rfl | rfl | rfl <;> rfl) (by simp only [maxLen]; omega) (by omega) (by simp; omega)
  have hform : ∃ A' c', v' = .slice A' (n + 1) c' := by
    obtain ⟨g, cap, hv, _⟩ := World.ownsRow.form h2 (by omega)
    exact ⟨_, _, hv⟩
  obtain ⟨A', c', rfl⟩ := hform
  refine ⟨A', c', w', hrun, ?_, (((Below.refl base w).alloc hbase _).grown h3 (by simp; omega) ?_)⟩
  · unfold OwnV
    rw [List.flatMap_append]
    simpa using h2
  · intro k hk
    exact (World.ownsRow.lt hown k hk).1

theorem wpList_append_val {ops : Array Oper} {rest : List Oper} {o : Oper} {a : Act} {Q : Exit → Act → World → Prop} (w : World) (hgd : o.guard = none) (s x : Operand)
    (ho : o.op = .call { callee := .builtin .append, args := #[s, x], argTypes := #[22, 22] }) {base n c : Nat} {A : Option Addr} {vs : List Val} (v : Val) (k : Int) (m : Int) (t : ByteArray) (hk : k = v.kind) (hm : m = v.num) (ht : t = strOf v.text)
    (g : Nat) (hg : g = w.heap.size) (hs : a.eval s = .slice A n c) (hx : a.eval x = .slice (some ⟨g, 0, none⟩) 1 1) (hown : OwnV w base A n c vs) (hnm : n ≤ 1000000) (hbase : base ≤ w.heap.size)
    (h : ∀ A' c' w', OwnV w' base A' (n + 1) c' (vs ++ [v]) → Below base w w' → wpList Try.prog ops Q rest (a.put o.dst (.slice A' (n + 1) c')) w') : wpList Try.prog ops Q (o :: rest) a (w.alloc (.cells #[.int .i64 k, .int .i64 m, .string t] 36)) :=
  wpList_plain hgd fun _ hK => by
    subst hg
    obtain ⟨A', c', w', hrun, h2, h3⟩ := run_append_val w o.type v k m t hk hm ht hown hnm hbase
    unfold Oper.wp execOp
    simp only [ho, resolve, invoke, builtin, Sem.run_bind, Sem.run_pure, Result.andThen_ok, List.map_toArray, List.map_cons, List.map_nil, hs, hx, hrun]
    exact hK _ _ (h A' c' w' h2 h3)
end Go.Proofs.Ytjmpolabpgmjpaa
