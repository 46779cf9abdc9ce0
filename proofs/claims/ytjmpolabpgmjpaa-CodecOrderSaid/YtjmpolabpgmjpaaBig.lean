/-
  Numbers as bytes: the walks of Little, Big, Unlittle, Unbig; a string behind bytes of the call's own.
-/
import Derived.Test.YtjmpolabpgmjpaaAfter
import Derived.Test.YtjmpolabpgmjpaaNum
import Derived.Lib.AppendStr
namespace Go.Proofs.Ytjmpolabpgmjpaa
open Go.RowKit

/-- A string's bytes behind bytes of the call's own. -/
theorem run_append_txt {P : Program} {T E S : TypeId} (hT : ByteTy P T E) (hS : P.underlying S = some .string) (w : World) (ty : TypeId) {base n c : Nat} {A : Option Addr} {xs ys : List UInt8} (hown : Own w base E A n c xs)
    (hnm : n + ys.length ≤ 1099511627776) (hbase : base ≤ w.heap.size) :
    ∃ A' c' w', (Builtin.append_ #[T, S] ty #[.slice A n c, .string (strOf ys)]).run P w = .ok (.slice A' (n + ys.length) c') w' ∧ Own w' base E A' (n + ys.length) c' (xs ++ ys) ∧ Below base w w' := by
  obtain ⟨i, hi, hz, hs, hb⟩ := hT.info
  have hsz : (strOf ys).size = ys.length := rfl
  obtain ⟨v', w', hrun, h2, h3, h4⟩ := Lib.run_append_own_string (P := P) w base T S ty E i hT.sl hS hi hz hs hb (.slice A n c) n (xs.map u8v) hown (strOf ys) (by rw [hsz]; simp only [maxLen]; omega) (by rw [hsz]; omega) hbase
  rw [hsz] at h2
  have hcells : Lib.strCells (strOf ys) = ys.map u8v := rfl
  rw [hcells, ← List.map_append] at h2
  have hform : ∃ A' c', v' = .slice A' (n + ys.length) c' := by
    rcases Nat.eq_zero_or_pos (n + ys.length) with h0 | h0
    · rcases h2.2 with ⟨hv, hn⟩ | ⟨g, cap, cur, hv, _⟩
      · exact ⟨none, 0, by rw [hv, h0]⟩
      · exact ⟨_, _, hv⟩
    · obtain ⟨g, cap, hv, _⟩ := World.ownsRow.form h2 h0
      exact ⟨_, _, hv⟩
  obtain ⟨A', c', rfl⟩ := hform
  exact ⟨A', c', w', hrun, h2, (Below.refl _ _).grown h3 hbase (fun k hk => (World.ownsRow.lt hown k hk).1)⟩

theorem wp_append_txt {P : Program} {T E S : TypeId} {o : Oper} {a : Act} {K : Act → World → Prop} {Q : Exit → Act → World → Prop} (hT : ByteTy P T E) (hS : P.underlying S = some .string) (w : World) (s x : Operand)
    (ho : o.op = .call { callee := .builtin .append, args := #[s, x], argTypes := #[T, S] }) {base n c : Nat} {A : Option Addr} {xs ys : List UInt8}
    (hs : a.eval s = .slice A n c) (hx : a.eval x = .string (strOf ys)) (hown : Own w base E A n c xs) (hnm : n + ys.length ≤ 1099511627776) (hbase : base ≤ w.heap.size)
    (h : ∀ A' c' w', Own w' base E A' (n + ys.length) c' (xs ++ ys) → Below base w w' → K (a.put o.dst (.slice A' (n + ys.length) c')) w') : o.wp P a w K Q := by
  obtain ⟨A', c', w', hrun, h2, h3⟩ := run_append_txt hT hS w o.type hown hnm hbase
  unfold Oper.wp execOp
  simp only [ho, resolve, invoke, builtin, Sem.run_bind, Sem.run_pure, Result.andThen_ok, List.map_toArray, List.map_cons, List.map_nil, hs, hx, hrun]
  exact h A' c' w' h2 h3
theorem wpList_append_txt {P : Program} {T E S : TypeId} {ops : Array Oper} {rest : List Oper} {o : Oper} {a : Act} {Q : Exit → Act → World → Prop} (hT : ByteTy P T E) (hS : P.underlying S = some .string) (w : World) (hgd : o.guard = none) (s x : Operand)
    (ho : o.op = .call { callee := .builtin .append, args := #[s, x], argTypes := #[T, S] }) {base n c : Nat} {A : Option Addr} {xs ys : List UInt8}
    (hs : a.eval s = .slice A n c) (hx : a.eval x = .string (strOf ys)) (hown : Own w base E A n c xs) (hnm : n + ys.length ≤ 1099511627776) (hbase : base ≤ w.heap.size)
    (h : ∀ A' c' w', Own w' base E A' (n + ys.length) c' (xs ++ ys) → Below base w w' → wpList P ops Q rest (a.put o.dst (.slice A' (n + ys.length) c')) w') : wpList P ops Q (o :: rest) a w :=
  wpList_plain hgd fun _ hK => wp_append_txt hT hS w s x ho hs hx hown hnm hbase fun A' c' w' h2 h3 => hK _ _ (h A' c' w' h2 h3)
theorem step_append_txt {P : Program} {T E S : TypeId} {ops : Array Oper} {o : Oper} {a : Act} {K : Act → World → Prop} {Q : Exit → Act → World → Prop} {F : Prop} (hT : ByteTy P T E) (hS : P.underlying S = some .string) (w : World) (hgd : o.guard = none) (s x : Operand)
    (ho : o.op = .call { callee := .builtin .append, args := #[s, x], argTypes := #[T, S] }) {base n c : Nat} {A : Option Addr} {xs ys : List UInt8}
    (hs : a.eval s = .slice A n c) (hx : a.eval x = .string (strOf ys)) (hown : Own w base E A n c xs) (hnm : n + ys.length ≤ 1099511627776) (hbase : base ≤ w.heap.size)
    (h : ∀ A' c' w', Own w' base E A' (n + ys.length) c' (xs ++ ys) → Below base w w' → K (a.put o.dst (.slice A' (n + ys.length) c')) w') :
    if Region.wanted o (yielded ops a.tmps) = true then Oper.wp P o a w K Q else F := by
  have hw : Region.wanted o (yielded ops a.tmps) = true := by simp [Region.wanted, hgd]
  rw [if_pos hw]
  exact wp_append_txt hT hS w s x ho hs hx hown hnm hbase h

theorem ret_int {k : IntKind} {a b : Int} (h : a = b) : Ending.returned (.int k a) = .returned (.int k b) := by rw [h]

set_option maxHeartbeats 400000 in
theorem little_any (A : Option Addr) (n c : Nat) (l : List UInt8) (y : Int) (x : BitVec 64) (hy : y = n64 x) (zi : Int) (z : Nat) (hzi : zi = (z : Int)) (base : Nat) (w : World) (hz : z ≤ 8) (hn : n ≤ 549755813888) (ho : Own w base 5 A n c l) (hB : base ≤ w.heap.size) :
    Calls Try.prog 28 #[.slice A n c, .int .u64 y, .int .i64 zi] w fun e w' => ∃ A' c', e = .returned (.slice A' (n + z) c') ∧ Own w' base 5 A' (n + z) c' (l ++ leN x z) ∧ Below base w w' := by
  subst hy hzi
  go_enter Try.func28, Try.ntmps28
  go_wp2_with fail
  go_loopw [0, 9] (fun v i wr => ∃ k : Nat, k ≤ z ∧ i = .int .i64 k ∧ ∃ A' c', v = .slice A' (n + k) c' ∧ Own wr base 5 A' (n + k) c' (l ++ leN x k) ∧ Below base w wr) (fun _ i _ => z - (intOf i).toNat)
  case atStart => exact ⟨0, Nat.zero_le _, rfl, A, c, rfl, by simpa [leN_zero] using ho, Below.refl _ _⟩
  case round =>
    obtain ⟨k, hk, rfl, A', c', rfl, hown, hbw⟩ := hrel
    by_cases hlt : k < z
    · have hby := n8_by64 x k
      have HL := Lib.hid (leN_succ x k)
      have hsz := hbw.size
      generalize by64 x k = d at *
      go_wp2_with (at_builtin; refine wpList_append_byt bty _ rfl (.tmp 12) (.tmp 18) rfl rfl rfl (hown.alloc _) (Byt.one wr 5 d (wr.heap.size + 1) (by omega)) (by omega) (by simp; omega) ?_; intro A2 c2 w2 hown2 hb2)
      go_roundw
      case rel => exact ⟨k + 1, by omega, by go_num, A2, c2, rfl, by rw [HL.out, ← List.append_assoc]; exact hown2, (hbw.alloc (by omega) _).trans hb2⟩
      case measure => simp [intOf]; omega
    · obtain rfl : k = z := by omega
      go_wp2_with fail
      go_ret
      exact ⟨A', c', rfl, hown, hbw⟩

theorem unlittle_any (A : Option Addr) (n c : Nat) (l : List UInt8) (B : Nat) (w : World) (hn : n ≤ 8) (hr : Byt w B A n l) :
    Calls Try.prog 34 #[.slice A n c] w fun e w' => e = .returned (.int .u64 (n64 (deN l))) ∧ w = w' := by
  go_enter Try.func34, Try.ntmps34
  go_wp2_with fail
  go_loop [3, 8] (fun r i => ∃ k : Nat, k ≤ n ∧ i = .int .i64 k ∧ r = .int .u64 (n64 (deTo l k))) (fun _ i => n - (intOf i).toNat)
  case atStart => exact ⟨0, Nat.zero_le _, rfl, rfl⟩
  case round =>
    obtain ⟨k, hk, rfl, rfl⟩ := hrel
    by_cases hlt : k < n
    · obtain ⟨b, off, d, rfl, hb, hd, hcell⟩ := hr.at_ hlt
      have HS := Lib.hid (deTo_succ l k d hd)
      clear hd
      generalize deTo l k = y at *
      go_wp2_with fail
      go_round
      case rel => exact ⟨k + 1, by omega, by go_num, by rw [HS.out, or_byte]⟩
      case measure => simp [intOf]; omega
    · obtain rfl : k = n := by omega
      have HE := Lib.hid hr.len
      go_wp2_with fail
      go_ret
      exact ⟨ret_int (by unfold deN; rw [HE.out]), rfl⟩

/-- The bytes of a number, the highest of z first: the first r of them. -/
def beTo (x : BitVec 64) (z r : Nat) : List UInt8 := (List.range r).map fun j => by64 x (z - 1 - j)
theorem beTo_succ (x : BitVec 64) (z r : Nat) : beTo x z (r + 1) = beTo x z r ++ [by64 x (z - 1 - r)] := by
  unfold beTo
  rw [List.range_succ, List.map_append]
  rfl
theorem beTo_len (x : BitVec 64) (z r : Nat) : (beTo x z r).length = r := by simp [beTo]

set_option maxHeartbeats 400000 in
theorem big_any (A : Option Addr) (n c : Nat) (l : List UInt8) (y : Int) (x : BitVec 64) (hy : y = n64 x) (zi : Int) (z : Nat) (hzi : zi = (z : Int)) (base : Nat) (w : World) (hz : z ≤ 8) (hn : n ≤ 549755813888) (ho : Own w base 5 A n c l) (hB : base ≤ w.heap.size) :
    Calls Try.prog 30 #[.slice A n c, .int .u64 y, .int .i64 zi] w fun e w' => ∃ A' c', e = .returned (.slice A' (n + z) c') ∧ Own w' base 5 A' (n + z) c' (l ++ beTo x z z) ∧ Below base w w' := by
  subst hy hzi
  go_enter Try.func30, Try.ntmps30
  go_wp2_with fail
  go_loopw [0, 7] (fun v i wr => ∃ r : Nat, r ≤ z ∧ i = .int .i64 ((z : Int) - 1 - (r : Int)) ∧ ∃ A' c', v = .slice A' (n + r) c' ∧ Own wr base 5 A' (n + r) c' (l ++ beTo x z r) ∧ Below base w wr) (fun _ i _ => (intOf i + 1).toNat)
  case atStart => exact ⟨0, Nat.zero_le _, by simp, A, c, rfl, by simpa [beTo] using ho, Below.refl _ _⟩
  case round =>
    obtain ⟨r, hr, rfl, A', c', rfl, hown, hbw⟩ := hrel
    by_cases hlt : r < z
    · obtain ⟨k, hk⟩ : ∃ k : Nat, k = z - 1 - r := ⟨_, rfl⟩
      have e1 : (z : Int) - 1 - (r : Int) = (k : Int) := by omega
      have hby := n8_by64 x k
      have HL : Hid (beTo x z (r + 1) = beTo x z r ++ [by64 x k]) := by rw [hk]; exact beTo_succ x z r
      have hk8 : k < 8 := by omega
      have e2 : (k : Int) - 1 = (z : Int) - 1 - ((r + 1 : Nat) : Int) := by omega
      have E2 := Lib.hid e2
      have E1 := Lib.hid e1
      rw [e1]
      have hsz := hbw.size
      generalize by64 x k = d at *
      clear e1 e2 hk
      go_wp2_with (at_builtin; refine wpList_append_byt bty _ rfl (.tmp 14) (.tmp 20) rfl rfl rfl (hown.alloc _) (Byt.one wr 5 d (wr.heap.size + 1) (by omega)) (by omega) (by simp; omega) ?_; intro A2 c2 w2 hown2 hb2)
      go_roundw
      case rel => exact ⟨r + 1, by omega, congrArg _ E2.out, A2, c2, rfl, by rw [HL.out, ← List.append_assoc]; exact hown2, (hbw.alloc (by omega) _).trans hb2⟩
      case measure => simp [intOf]
    · obtain rfl : r = z := by omega
      go_wp2_with fail
      go_ret
      exact ⟨A', c', rfl, hown, hbw⟩
end Go.Proofs.Ytjmpolabpgmjpaa
