/-
  make([]byte, n): n bytes that are nought.
-/
import Derived.Test.YtjmpolabpgmjpaaMem
import Derived.OwnWalk
namespace Go.Proofs.Ytjmpolabpgmjpaa
open Go.RowKit

theorem made_zero (n : Nat) : (madeCells #[.int .u8 0] (n * 1)).toList = (List.replicate n (0 : UInt8)).map u8v := by
  have hz : u8v 0 = .int .u8 0 := rfl
  apply List.ext_getElem?
  intro j
  by_cases hj : j < n
  · simp [madeCells, hj, hz, Nat.mod_one]
  · simp [madeCells, hj]

theorem wpList_make_byt {P : Program} {T E : TypeId} (hT : ByteTy P T E) (w : World) {ops : Array Oper} {rest : List Oper} {o : Oper} {a : Act} {Q : Exit → Act → World → Prop}
    (hg : o.guard = none) (l c : Operand) (hop : o.op = Op.makeSlice T l c) (base : Nat)
    (kl kc : IntKind) (L C : Int) (n : Nat) (hl : a.eval l = .int kl L) (hc : a.eval c = .int kc C) (hL : L = (n : Int)) (hC : C = (n : Int)) (hn : n ≤ 281474976710656) (hb : base ≤ w.heap.size)
    (hK : ∀ w', Own w' base E (some ⟨w.heap.size, 0, none⟩) n n (List.replicate n 0) → Below w.heap.size w w' → wpList P ops Q rest (a.put o.dst (.slice (some ⟨w.heap.size, 0, none⟩) n n)) w') :
    wpList P ops Q (o :: rest) a w := by
  obtain ⟨i, hi, hz, hs, hby⟩ := hT.info
  refine wpList_make_full w hg l c T hop base E i (.int .u8 0) 1 hT.sl hi hz hs kl kc L C n hl hc hL hC (by rw [hby]; omega) (by unfold maxLen; omega) hb ?_
  intro w' h1 h2
  refine hK w' ?_ ((Below.refl _ _).grown h2 (Nat.le_refl _) (by intro k hk; cases hk))
  unfold Own
  rw [← made_zero]
  exact h1

/-- append at an operation that is guarded, where its guard says yes. -/
theorem wpList_append_byt_g {P : Program} {T E : TypeId} {ops : Array Oper} {rest : List Oper} {o : Oper} {a : Act} {Q : Exit → Act → World → Prop} (hT : ByteTy P T E) (w : World) (hw : Region.wanted o (yielded ops a.tmps) = true) (s x : Operand)
    (ho : o.op = .call { callee := .builtin .append, args := #[s, x], argTypes := #[T, T] }) {base n c B m c2 : Nat} {A A2 : Option Addr} {xs ys : List UInt8}
    (hs : a.eval s = .slice A n c) (hx : a.eval x = .slice A2 m c2) (hown : Own w base E A n c xs) (hr : Byt w B A2 m ys)
    (hnm : n + m ≤ 1099511627776) (hbase : base ≤ w.heap.size)
    (h : ∀ A' c' w', Own w' base E A' (n + m) c' (xs ++ ys) → Below base w w' → wpList P ops Q rest (a.put o.dst (.slice A' (n + m) c')) w') : wpList P ops Q (o :: rest) a w :=
  wpList_step fun _ hK => by
    rw [if_pos hw]
    exact wp_append_byt hT w s x ho hs hx hown hr hnm hbase fun A' c' w' h2 h3 => hK _ _ (h A' c' w' h2 h3)
theorem Own.cap {w : World} {base : Nat} {E : TypeId} {A : Option Addr} {n c : Nat} {l : List UInt8} (h : Own w base E A n c l) : n ≤ c := by
  rcases h.2 with ⟨hv, hn⟩ | ⟨g, cap, cur, hv, _, _, hnc, _⟩
  · omega
  · injection hv with _ _ e
    omega
/-- A store into a slice of the call's own. -/
theorem Own.stored {w : World} {base g n c : Nat} {E : TypeId} {l : List UInt8} (h : Own w base E (some ⟨g, 0, none⟩) n c l) (j : Nat) (d : UInt8) :
    Own (w.setCell ⟨g, j, none⟩ (.int .u8 (n8 d))) base E (some ⟨g, 0, none⟩) n c (l.set j d) := by
  have h1 := (World.ownsRow.stored (w := w) (base := base) (e := E) (size := 1) (g := g) (n := n) (cap := c) h j (u8v d)).1
  unfold Own
  rw [List.map_set]
  exact h1
end Go.Proofs.Ytjmpolabpgmjpaa
