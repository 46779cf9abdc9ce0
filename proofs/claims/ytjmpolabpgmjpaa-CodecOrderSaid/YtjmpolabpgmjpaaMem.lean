/-
  Slices of bytes in memory: a slice that reads as a list of bytes (nil let in), a slice of the call's own that holds such a list, and append from the one onto the other.
-/
import Derived.Test.YtjmpolabpgmjpaaBits
import Derived.WalkKit
import Derived.Maps.AppendAt
import Derived.Deep.AppendLies
import Derived.Deep.Draws
import Derived.RegionTactic
import Derived.OwnWalk
namespace Go.Proofs.Ytjmpolabpgmjpaa
open Go.RowKit

/-- The bytes l lie at A (nil, or an address below block B), n of them. -/
def Byt (w : World) (B : Nat) (A : Option Addr) (n : Nat) (l : List UInt8) : Prop :=
  l.length = n ∧ (0 < n → ∃ b off, A = some ⟨b, off, none⟩ ∧ b < B ∧ ∀ j c, l[j]? = some c → w.cell? ⟨b, off + j, none⟩ = some (.int .u8 (n8 c)))

def u8v (c : UInt8) : Value := .int .u8 (n8 c)

/-- A slice of the call's own (its block from base on) that holds the bytes l. -/
def Own (w : World) (base : Nat) (E : TypeId) (A : Option Addr) (n c : Nat) (l : List UInt8) : Prop :=
  w.ownsRow base E 1 (.slice A n c) n (l.map u8v)

/-- T is []byte, E is byte. -/
structure ByteTy (P : Program) (T E : TypeId) : Prop where
  sl : P.underlying T = some (.slice E)
  info : ∃ i, P.info? E = some i ∧ i.zero = some (.int .u8 0) ∧ i.size = 1 ∧ i.bytes = 1

theorem add_plain (b off j : Nat) : (⟨b, off, none⟩ : Addr).add j = ⟨b, off + j, none⟩ := by
  unfold Addr.add
  split
  · rename_i e; subst e; rfl
  · rfl

section
variable {w w' : World} {B B' n : Nat} {A : Option Addr} {l : List UInt8}

theorem Byt.nil_ (A : Option Addr) : Byt w B A 0 [] := ⟨rfl, fun h => absurd h (by omega)⟩
theorem Byt.len (h : Byt w B A n l) : l.length = n := h.1
theorem Byt.at_ {k : Nat} (h : Byt w B A n l) (hk : k < n) :
    ∃ b off c, A = some ⟨b, off, none⟩ ∧ b < B ∧ l[k]? = some c ∧ w.cell? ⟨b, off + k, none⟩ = some (.int .u8 (n8 c)) := by
  obtain ⟨b, off, e, hb, hc⟩ := h.2 (by omega)
  have hl : k < l.length := by have := h.1; omega
  exact ⟨b, off, l[k], e, hb, List.getElem?_eq_getElem hl, hc k _ (List.getElem?_eq_getElem hl)⟩
theorem Byt.keep (h : Byt w B A n l) (hk : ∀ p : Addr, p.block < B → w'.cell? p = w.cell? p) : Byt w' B A n l :=
  ⟨h.1, fun hn => by
    obtain ⟨b, off, e, hb, hc⟩ := h.2 hn
    exact ⟨b, off, e, hb, fun j c hj => (hk _ hb).trans (hc j c hj)⟩⟩
theorem Byt.more (h : Byt w B A n l) (hB : B ≤ B') : Byt w B' A n l :=
  ⟨h.1, fun hn => by
    obtain ⟨b, off, e, hb, hc⟩ := h.2 hn
    exact ⟨b, off, e, by omega, hc⟩⟩
theorem Byt.below (h : Byt w B A n l) (hb : Below B w w') : Byt w' B A n l := h.keep fun _ hp => hb.cell hp
theorem Byt.drew (h : Byt w B A n l) : Byt w.drew B A n l := h
theorem Byt.drewN (h : Byt w B A n l) (k : Nat) : Byt (w.drewN k) B A n l := h
theorem Byt.alloc (h : Byt w B A n l) (hB : B ≤ w.heap.size) (o : Obj) : Byt (w.alloc o) B A n l :=
  h.keep fun p hp => World.cell?_alloc_lt w o p (by omega)
theorem Byt.setCell (h : Byt w B A n l) {p : Addr} (hB : B ≤ p.block) (u : Value) : Byt (w.setCell p u) B A n l :=
  h.keep fun q hq => World.cell?_setCell_other w p q u (fun e => by subst e; omega)
/-- The bytes from i to j: whatever address the walk gives an empty cut. -/
theorem Byt.mid (h : Byt w B A n l) {i j : Nat} (hij : i ≤ j) (hj : j ≤ n) {A' : Option Addr}
    (hA : i < j → ∀ b off, A = some ⟨b, off, none⟩ → A' = some ⟨b, off + i, none⟩) : Byt w B A' (j - i) ((l.take j).drop i) := by
  refine ⟨by rw [List.length_drop, List.length_take, h.1]; omega, fun hn => ?_⟩
  obtain ⟨b, off, e, hb, hc⟩ := h.2 (by omega)
  refine ⟨b, off + i, hA (by omega) b off e, hb, fun k c hk => ?_⟩
  rw [Nat.add_assoc]
  refine hc (i + k) c ?_
  rw [List.getElem?_drop, List.getElem?_take] at hk
  by_cases hlt : i + k < j
  · rwa [if_pos hlt] at hk
  · rw [if_neg hlt] at hk; cases hk
theorem Own.len {base c : Nat} {E : TypeId} (h : Own w base E A n c l) : l.length = n := by
  have := h.1; simpa using this
theorem Own.byt {base c : Nat} {E : TypeId} (h : Own w base E A n c l) : Byt w w.heap.size A n l := by
  refine ⟨h.len, fun hn => ?_⟩
  obtain ⟨g, cap, hv, _, hlt⟩ := World.ownsRow.form h hn
  have hA : A = some ⟨g, 0, none⟩ := by injection hv
  subst hA
  refine ⟨g, 0, rfl, hlt, fun j d hj => ?_⟩
  have := World.ownsRow.cells h (g := g) rfl j (u8v d) (by rw [List.getElem?_map, hj]; rfl)
  rw [add_plain] at this
  exact this
theorem Own.nil_ (w : World) (base : Nat) (E : TypeId) : Own w base E none 0 0 [] := World.ownsRow_nil w base E 1
theorem Own.below {base c : Nat} {E : TypeId} (h : Own w base E A n c l) (hb : Below w.heap.size w w') : Own w' base E A n c l := by
  refine World.ownsRow.kept (row := none) h ⟨hb.os, hb.tape, hb.output, hb.size, fun k hk _ => hb.block k hk⟩ ?_
  cases A with
  | none => exact .inl rfl
  | some a => exact .inr (by simp [Value.ownBlock])
theorem Own.drew {base c : Nat} {E : TypeId} (h : Own w base E A n c l) : Own w.drew base E A n c l := h
theorem Own.alloc {base c : Nat} {E : TypeId} (h : Own w base E A n c l) (o : Obj) : Own (w.alloc o) base E A n c l := World.ownsRow.alloc h o
theorem Own.base_ {base base' c : Nat} {E : TypeId} (h : Own w base E A n c l) (hb : base' ≤ base) : Own w base' E A n c l := by
  refine ⟨h.1, ?_⟩
  rcases h.2 with h0 | ⟨g, cap, cur, h1, h2, h3⟩
  · exact .inl h0
  · exact .inr ⟨g, cap, cur, h1, Nat.le_trans hb h2, h3⟩
/-- New bytes in a block of their own, as 'append(b, x, y)' lays them. -/
theorem Byt.news (w : World) (E : TypeId) (l : List UInt8) (B : Nat) (hB : w.heap.size < B) : Byt (w.alloc (.cells (l.map fun c => Value.int .u8 (n8 c)).toArray E)) B (some ⟨w.heap.size, 0, none⟩) l.length l := by
  refine ⟨rfl, fun _ => ⟨_, _, rfl, hB, fun j d hj => ?_⟩⟩
  rw [cell_of_row _ w.heap.size (0 + j) _ E (0, 0) (heap_alloc_new w _)]
  simp [hj]
/-- One new byte in a block of its own, as 'append(b, x)' lays it. -/
theorem Byt.one (w : World) (E : TypeId) (c : UInt8) (B : Nat) (hB : w.heap.size < B) : Byt (w.alloc (.cells #[.int .u8 (n8 c)] E)) B (some ⟨w.heap.size, 0, none⟩) 1 [c] := by
  refine ⟨rfl, fun _ => ⟨_, _, rfl, hB, fun j d hj => ?_⟩⟩
  match j, hj with
  | 0, hj =>
    simp at hj
    subst hj
    have := cell_one_new w (.int .u8 (n8 c)) E 0 (.int .u8 (n8 c)) rfl
    rwa [add_plain] at this
end

section
variable {P : Program} {T E : TypeId}

theorem run_append_byt (hT : ByteTy P T E) (w : World) (ty : TypeId) {base n c B m c2 : Nat} {A A2 : Option Addr} {xs ys : List UInt8} (hown : Own w base E A n c xs) (hr : Byt w B A2 m ys)
    (hnm : n + m ≤ 1099511627776) (hbase : base ≤ w.heap.size) :
    ∃ A' c' w', (Builtin.append_ #[T, T] ty #[.slice A n c, .slice A2 m c2]).run P w = .ok (.slice A' (n + m) c') w' ∧ Own w' base E A' (n + m) c' (xs ++ ys) ∧ Below base w w' := by
  obtain ⟨i, hi, hz, hs, hb⟩ := hT.info
  have one : ∀ u ∈ ys.map u8v, u.oneCell' = true := by
    intro u hu
    obtain ⟨d, _, rfl⟩ := List.mem_map.1 hu
    rfl
  by_cases h0 : m = 0
  · subst h0
    have hy : ys = [] := List.eq_nil_of_length_eq_zero hr.1
    subst hy
    refine ⟨A, c, w, ?_, by simpa using hown, Below.refl _ _⟩
    rcases hown.2 with ⟨hv, hn⟩ | ⟨g, cap, cur, hv, _, hg, hnc, _⟩
    · injection hv with e1 e2 e3
      subst e1 e2 e3
      cases A2 <;> simp [Builtin.append_, run_underlying hT.sl, sizeOf, typeInfo, hi, Builtin.lenOf, Builtin.firstCells, loadCells, loadCellsFrom]
    · injection hv with e1 e2 e3
      subst e1 e3
      cases A2 <;> simp [Builtin.append_, run_underlying hT.sl, sizeOf, typeInfo, hi, Builtin.lenOf, Builtin.firstCells, hnc, storeCells, loadCells, loadCellsFrom]
  · obtain ⟨b, off, rfl, _, hc⟩ := hr.2 (by omega)
    obtain ⟨v', w', hrun, h2, h3, _, h5⟩ := run_append_own_at (P := P) w base T ty E i (.int .u8 0) 1 1 hT.sl hi hz hs hb rfl (by omega) (.slice A n c) n (xs.map u8v) hown ⟨b, off, none⟩ m c2 (ys.map u8v)
      (by rw [List.length_map, hr.1]; omega) (by
        intro j u hu
        rw [List.getElem?_map] at hu
        cases hy : ys[j]? with
        | none => rw [hy] at hu; cases hu
        | some d =>
          rw [hy] at hu
          injection hu with hu
          subst hu
          rw [add_plain]
          exact hc j d hy) one (by simp only [maxLen]; omega) (by omega) hbase
    have hform : ∃ A' c', v' = .slice A' (n + m) c' := by
      obtain ⟨g, cap, hv, _⟩ := World.ownsRow.form h2 (by omega)
      exact ⟨_, _, hv⟩
    obtain ⟨A', c', rfl⟩ := hform
    refine ⟨A', c', w', hrun, by unfold Own; rw [List.map_append]; exact h2, (Below.refl _ _).grown h3 hbase ?_⟩
    intro k hk
    exact (World.ownsRow.lt hown k hk).1

theorem wp_append_byt {o : Oper} {a : Act} {K : Act → World → Prop} {Q : Exit → Act → World → Prop} (hT : ByteTy P T E) (w : World) (s x : Operand)
    (ho : o.op = .call { callee := .builtin .append, args := #[s, x], argTypes := #[T, T] }) {base n c B m c2 : Nat} {A A2 : Option Addr} {xs ys : List UInt8}
    (hs : a.eval s = .slice A n c) (hx : a.eval x = .slice A2 m c2) (hown : Own w base E A n c xs) (hr : Byt w B A2 m ys)
    (hnm : n + m ≤ 1099511627776) (hbase : base ≤ w.heap.size)
    (h : ∀ A' c' w', Own w' base E A' (n + m) c' (xs ++ ys) → Below base w w' → K (a.put o.dst (.slice A' (n + m) c')) w') : o.wp P a w K Q := by
  obtain ⟨A', c', w', hrun, h2, h3⟩ := run_append_byt hT w o.type (c2 := c2) hown hr hnm hbase
  unfold Oper.wp execOp
  simp only [ho, resolve, invoke, builtin, Sem.run_bind, Sem.run_pure, Result.andThen_ok, List.map_toArray, List.map_cons, List.map_nil, hs, hx, hrun]
  exact h A' c' w' h2 h3

/-- append at a plain operation of the walk. -/
theorem wpList_append_byt {ops : Array Oper} {rest : List Oper} {o : Oper} {a : Act} {Q : Exit → Act → World → Prop} (hT : ByteTy P T E) (w : World) (hgd : o.guard = none) (s x : Operand)
    (ho : o.op = .call { callee := .builtin .append, args := #[s, x], argTypes := #[T, T] }) {base n c B m c2 : Nat} {A A2 : Option Addr} {xs ys : List UInt8}
    (hs : a.eval s = .slice A n c) (hx : a.eval x = .slice A2 m c2) (hown : Own w base E A n c xs) (hr : Byt w B A2 m ys)
    (hnm : n + m ≤ 1099511627776) (hbase : base ≤ w.heap.size)
    (h : ∀ A' c' w', Own w' base E A' (n + m) c' (xs ++ ys) → Below base w w' → wpList P ops Q rest (a.put o.dst (.slice A' (n + m) c')) w') : wpList P ops Q (o :: rest) a w :=
  wpList_plain hgd fun _ hK => wp_append_byt hT w s x ho hs hx hown hr hnm hbase fun A' c' w' h2 h3 => hK _ _ (h A' c' w' h2 h3)

/-- append inside a region that draws its order, the operation wanted. -/
theorem step_append_byt {ops : Array Oper} {o : Oper} {a : Act} {K : Act → World → Prop} {Q : Exit → Act → World → Prop} {F : Prop} (hT : ByteTy P T E) (w : World) (hgd : o.guard = none) (s x : Operand)
    (ho : o.op = .call { callee := .builtin .append, args := #[s, x], argTypes := #[T, T] }) {base n c B m c2 : Nat} {A A2 : Option Addr} {xs ys : List UInt8}
    (hs : a.eval s = .slice A n c) (hx : a.eval x = .slice A2 m c2) (hown : Own w base E A n c xs) (hr : Byt w B A2 m ys)
    (hnm : n + m ≤ 1099511627776) (hbase : base ≤ w.heap.size)
    (h : ∀ A' c' w', Own w' base E A' (n + m) c' (xs ++ ys) → Below base w w' → K (a.put o.dst (.slice A' (n + m) c')) w') :
    if Region.wanted o (yielded ops a.tmps) = true then Oper.wp P o a w K Q else F := by
  have hw : Region.wanted o (yielded ops a.tmps) = true := by simp [Region.wanted, hgd]
  rw [if_pos hw]
  exact wp_append_byt hT w s x ho hs hx hown hr hnm hbase h
end

/-- A list of bytes as a string of the model. -/
def strOf (l : List UInt8) : ByteArray := ⟨l.toArray⟩
theorem foldl_push (l : List UInt8) : ∀ s : ByteArray, (l.map n8).foldl (fun r n => r.push (UInt8.ofNat n.toNat)) s = ⟨s.data ++ l.toArray⟩ := by
  induction l with
  | nil => intro s; simp
  | cons c l ih =>
    intro s
    simp only [List.map_cons, List.foldl_cons]
    rw [ih]
    have hc : UInt8.ofNat (n8 c).toNat = c := by
      unfold n8
      rw [Int.toNat_natCast]
      simp
    rw [hc]
    simp [ByteArray.push]
/-- string(b). -/
theorem run_str_byt {P : Program} {T E S : TypeId} (hs : P.underlying T = some (.slice E)) (he : P.underlying E = some (.int .u8)) (hd : P.underlying S = some .string)
    (w : World) {B n : Nat} {A : Option Addr} {l : List UInt8} (hr : Byt w B A n l) (c : Nat) :
    (convert T S (.slice A n c)).run P w = .ok (.string (strOf l)) w := by
  rw [run_convert_bytes_string w T S E A n c hs he hd]
  cases A with
  | none =>
    have hn : n = 0 := by
      rcases Nat.eq_zero_or_pos n with h | h
      · exact h
      · obtain ⟨b, off, e, _⟩ := hr.2 h
        cases e
    subst hn
    have hl : l = [] := List.eq_nil_of_length_eq_zero hr.1
    subst hl
    rfl
  | some a =>
    have hload : (loadCells a n).run P w = .ok ((l.map n8).map (Value.int .u8)).toArray w := by
      have h1 := run_loadCells_list (P := P) (w := w) a ((l.map n8).map (Value.int .u8)) (by
        intro j v hj
        have hn : 0 < n := by
          rcases Nat.eq_zero_or_pos n with h | h
          · subst h
            have hl : l = [] := List.eq_nil_of_length_eq_zero hr.1
            subst hl
            simp at hj
          · exact h
        obtain ⟨b, off, e, _, hc⟩ := hr.2 hn
        injection e with e
        subst e
        rw [List.map_map, List.getElem?_map] at hj
        cases hy : l[j]? with
        | none => rw [hy] at hj; cases hj
        | some d =>
          rw [hy] at hj
          injection hj with hj
          subst hj
          rw [add_plain]
          exact hc j d hy)
      rw [List.length_map, List.length_map, hr.1] at h1
      exact h1
    rw [run_bytesToString w a n c (l.map n8) hload, foldl_push]
    simp [strOf]

end Go.Proofs.Ytjmpolabpgmjpaa
