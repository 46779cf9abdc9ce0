/-
  The walks of may, Compare, Rows, sign.
-/
import Derived.Test.YtjmpolabpgmjpaaVmem
import Derived.Test.YtjmpolabpgmjpaaTot
import Derived.BigQuiet
import Derived.WalkMore
import Derived.Deep.RegionWith
import Derived.Handy
import Derived.Outline
import Derived.Deep.DeepCutAuto
namespace Go.Proofs.Ytjmpolabpgmjpaa
open Go.RowKit
attribute [local go_sem] strOf_list

theorem lit2_cell (w : World) (X : Obj) (C : Array Value) (T : TypeId) (i : Nat) : ((w.alloc X).alloc (.cells C T)).cell? ⟨w.heap.size + 1, i, none⟩ = C[i]? := by
  have := lit_cell (w.alloc X) C T i
  rwa [show (w.alloc X).heap.size = w.heap.size + 1 from by simp] at this
theorem set3 {w : World} {g : Nat} {x0 x1 x2 : Value} (a b c : Value) (h0 : w.cell? ⟨g, 0, none⟩ = some x0) (h1 : w.cell? ⟨g, 1, none⟩ = some x1) (h2 : w.cell? ⟨g, 2, none⟩ = some x2) :
    (((w.setCell ⟨g, 0, none⟩ a).setCell ⟨g, 1, none⟩ b).setCell ⟨g, 2, none⟩ c).cell? ⟨g, 0, none⟩ = some a ∧
    (((w.setCell ⟨g, 0, none⟩ a).setCell ⟨g, 1, none⟩ b).setCell ⟨g, 2, none⟩ c).cell? ⟨g, 1, none⟩ = some b ∧
    (((w.setCell ⟨g, 0, none⟩ a).setCell ⟨g, 1, none⟩ b).setCell ⟨g, 2, none⟩ c).cell? ⟨g, 2, none⟩ = some c := by
  have n01 : (⟨g, 0, none⟩ : Addr) ≠ ⟨g, 1, none⟩ := by simp
  have n02 : (⟨g, 0, none⟩ : Addr) ≠ ⟨g, 2, none⟩ := by simp
  have n12 : (⟨g, 1, none⟩ : Addr) ≠ ⟨g, 2, none⟩ := by simp
  refine ⟨?_, ?_, ?_⟩
  · rw [World.cell?_setCell_other _ _ _ _ n02.symm, World.cell?_setCell_other _ _ _ _ n01.symm]
    exact World.cell?_setCell_same _ _ _ h0
  · rw [World.cell?_setCell_other _ _ _ _ n12.symm]
    exact World.cell?_setCell_same _ _ _ ((World.cell?_setCell_other _ _ _ _ n01).trans h1)
  · exact World.cell?_setCell_same _ _ _ (((World.cell?_setCell_other _ _ _ _ n12).trans (World.cell?_setCell_other _ _ _ _ n02)).trans h2)
set_option maxHeartbeats 800000 in
theorem may_any (v : Val) (hv : isV v = true) (hl : v.text.length ≤ 9223372036854775807) (w : World) :
    Calls Try.prog 40 #[v.agg] w fun e w' => e = .returned v.agg ∧ Below w.heap.size w w' := by
  have HV := Lib.hid hv
  have HC := Lib.hid (fun W => ris_any v.kind v.num v.text hl W)
  obtain ⟨k, n, t⟩ := v
  clear hv hl
  show Calls Try.prog 40 #[.agg #[.int .i64 k, .int .i64 n, .string (strOf t)]] w fun e w' => e = .returned (.agg #[.int .i64 k, .int .i64 n, .string (strOf t)]) ∧ Below w.heap.size w w'
  go_enter Try.func40, Try.ntmps40
  go_wp2_with fail
  refine (HC.out _).mono ?_
  rintro e w2 ⟨rfl, hb2⟩
  rw [show isV ⟨k, n, t⟩ = true from HV.out]
  have hs : ∀ (X Y : Obj), ((w.alloc X).alloc Y).heap.size = w.heap.size + 2 := fun X Y => by simp
  have c0 := (hb2.cell (p := ⟨w.heap.size, 0, none⟩) (by simp; omega)).trans (rec_cell w _ _ _ 0)
  have c1 := (hb2.cell (p := ⟨w.heap.size, 1, none⟩) (by simp; omega)).trans (rec_cell w _ _ _ 1)
  have c2 := (hb2.cell (p := ⟨w.heap.size, 2, none⟩) (by simp; omega)).trans (rec_cell w _ _ _ 2)
  have hs1 : ∀ X : Obj, (w.alloc X).heap.size = w.heap.size + 1 := fun X => by simp
  have d0 := (hb2.cell (p := ⟨w.heap.size + 1, 0, none⟩) (by simp)).trans (lit2_cell w _ _ _ 0)
  have d1 := (hb2.cell (p := ⟨w.heap.size + 1, 1, none⟩) (by simp)).trans (lit2_cell w _ _ _ 1)
  have d2 := (hb2.cell (p := ⟨w.heap.size + 1, 2, none⟩) (by simp)).trans (lit2_cell w _ _ _ 2)
  have f0 := (hb2.frozen (p := ⟨w.heap.size + 1, 0, none⟩) (by simp)).trans (World.frozen?_alloc_at _ _ _ _ (hs1 _).symm)
  have f1 := (hb2.frozen (p := ⟨w.heap.size + 1, 1, none⟩) (by simp)).trans (World.frozen?_alloc_at _ _ _ _ (hs1 _).symm)
  have f2 := (hb2.frozen (p := ⟨w.heap.size + 1, 2, none⟩) (by simp)).trans (World.frozen?_alloc_at _ _ _ _ (hs1 _).symm)
  have hb3 : Below w.heap.size w w2 := (((Below.refl _ _).alloc (Nat.le_refl _) _).alloc (by simp) _).trans (hb2.mono (by simp; omega))
  clear hb2
  go_wp2_with fail
  obtain ⟨r0, r1, r2⟩ := set3 (.int .i64 k) (.int .i64 n) (.string (strOf t)) d0 d1 d2
  have hbe : Below w.heap.size w (((w2.setCell ⟨w.heap.size + 1, 0, none⟩ (.int .i64 k)).setCell ⟨w.heap.size + 1, 1, none⟩ (.int .i64 n)).setCell ⟨w.heap.size + 1, 2, none⟩ (.string (strOf t))) :=
    ((hb3.setCell (by simp) _).setCell (by simp) _).setCell (by simp) _
  generalize (((w2.setCell ⟨w.heap.size + 1, 0, none⟩ (.int .i64 k)).setCell ⟨w.heap.size + 1, 1, none⟩ (.int .i64 n)).setCell ⟨w.heap.size + 1, 2, none⟩ (.string (strOf t))) = w3 at *
  refine bodyPost_ret (v := .agg #[.int .i64 k, .int .i64 n, .string (strOf t)]) (by simp [results, Try.results40, go_sem, r0, r1, r2]) rfl ⟨rfl, hbe⟩

/-- A value lies in block g, which may be written. -/
structure Box (g : Nat) (k n : Int) (t : List UInt8) (W : World) : Prop where
  lt : g < W.heap.size
  c0 : W.cell? ⟨g, 0, none⟩ = some (.int .i64 k)
  c1 : W.cell? ⟨g, 1, none⟩ = some (.int .i64 n)
  c2 : W.cell? ⟨g, 2, none⟩ = some (.string (strOf t))
  f0 : W.frozen? ⟨g, 0, none⟩ = false
  f1 : W.frozen? ⟨g, 1, none⟩ = false
  f2 : W.frozen? ⟨g, 2, none⟩ = false
theorem Box.step {g : Nat} {k n : Int} {t : List UInt8} {W W' : World} (h : Box g k n t W) (hb : Below W.heap.size W W') : Box g k n t W' :=
  ⟨Nat.lt_of_lt_of_le h.lt hb.size, (hb.cell (p := ⟨g, 0, none⟩) h.lt).trans h.c0, (hb.cell (p := ⟨g, 1, none⟩) h.lt).trans h.c1, (hb.cell (p := ⟨g, 2, none⟩) h.lt).trans h.c2,
    (hb.frozen (p := ⟨g, 0, none⟩) h.lt).trans h.f0, (hb.frozen (p := ⟨g, 1, none⟩) h.lt).trans h.f1, (hb.frozen (p := ⟨g, 2, none⟩) h.lt).trans h.f2⟩
theorem Box.drew {g : Nat} {k n : Int} {t : List UInt8} {W : World} (h : Box g k n t W) : Box g k n t W.drew := ⟨h.lt, h.c0, h.c1, h.c2, h.f0, h.f1, h.f2⟩
theorem Box.new (w : World) (k n : Int) (t : List UInt8) : Box w.heap.size k n t (w.alloc (.cells #[.int .i64 k, .int .i64 n, .string (strOf t)] 36)) :=
  ⟨by simp, lit_cell w _ _ 0, lit_cell w _ _ 1, lit_cell w _ _ 2, World.frozen?_alloc_at _ _ _ _ rfl, World.frozen?_alloc_at _ _ _ _ rfl, World.frozen?_alloc_at _ _ _ _ rfl⟩

theorem store_id {w : World} {p : Addr} {v : Value} (h : w.cell? p = some v) (q : Addr) : (w.setCell p v).cell? q = w.cell? q := by
  by_cases e : p = q
  · subst e
    rw [h]
    exact World.cell?_setCell_same _ _ _ h
  · exact World.cell?_setCell_other _ _ _ _ e
theorem six {w : World} {g h : Nat} {a b c d e f : Value} (h0 : w.cell? ⟨g, 0, none⟩ = some a) (h1 : w.cell? ⟨g, 1, none⟩ = some b) (h2 : w.cell? ⟨g, 2, none⟩ = some c)
    (h3 : w.cell? ⟨h, 0, none⟩ = some d) (h4 : w.cell? ⟨h, 1, none⟩ = some e) (h5 : w.cell? ⟨h, 2, none⟩ = some f) (q : Addr) :
    ((((((w.setCell ⟨g, 0, none⟩ a).setCell ⟨g, 1, none⟩ b).setCell ⟨g, 2, none⟩ c).setCell ⟨h, 0, none⟩ d).setCell ⟨h, 1, none⟩ e).setCell ⟨h, 2, none⟩ f).cell? q = w.cell? q := by
  have e1 := store_id h0
  have e2 := fun q => (store_id ((e1 _).trans h1) q).trans (e1 q)
  have e3 := fun q => (store_id ((e2 _).trans h2) q).trans (e2 q)
  have e4 := fun q => (store_id ((e3 _).trans h3) q).trans (e3 q)
  have e5 := fun q => (store_id ((e4 _).trans h4) q).trans (e4 q)
  exact (store_id ((e5 _).trans h5) q).trans (e5 q)
/-- Is the one ahead of the other? -/
def ltV (u v : Val) : Bool := decide (u.kind < v.kind) || (decide (u.kind = v.kind) && (decide (u.num < v.num) || Op.bytesLess u.text v.text))
def cmpV (u v : Val) : Int := if ltV u v = true then -1 else if u.kind = v.kind ∧ u.num = v.num ∧ u.text = v.text then 0 else 1

theorem cmp_lt {u v : Val} (h : ltV u v = true) : cmpV u v = -1 := by unfold cmpV; rw [if_pos h]
set_option maxHeartbeats 1600000 in
theorem cmp_any (u v : Val) (hu : isV u = true) (hv : isV v = true) (hlu : u.text.length ≤ 9223372036854775807) (hlv : v.text.length ≤ 9223372036854775807) (w : World) :
    Calls Try.prog 31 #[u.agg, v.agg] w fun e w' => e = .returned (.int .i64 (cmpV u v)) ∧ Below w.heap.size w w' := by
  obtain ⟨k, n, t⟩ := u
  obtain ⟨k2, n2, t2⟩ := v
  have HU : Hid (∀ W, Calls Try.prog 40 #[.agg #[.int .i64 k, .int .i64 n, .string (strOf t)]] W fun e w' => e = .returned (.agg #[.int .i64 k, .int .i64 n, .string (strOf t)]) ∧ Below W.heap.size W w') := fun W => may_any ⟨k, n, t⟩ hu hlu W
  have HV : Hid (∀ W, Calls Try.prog 40 #[.agg #[.int .i64 k2, .int .i64 n2, .string (strOf t2)]] W fun e w' => e = .returned (.agg #[.int .i64 k2, .int .i64 n2, .string (strOf t2)]) ∧ Below W.heap.size W w') := fun W => may_any ⟨k2, n2, t2⟩ hv hlv W
  clear hu hv hlu hlv
  show Calls Try.prog 31 #[.agg #[.int .i64 k, .int .i64 n, .string (strOf t)], .agg #[.int .i64 k2, .int .i64 n2, .string (strOf t2)]] w fun e w' => e = .returned (.int .i64 (cmpV ⟨k, n, t⟩ ⟨k2, n2, t2⟩)) ∧ Below w.heap.size w w'
  go_enter Try.func31, Try.ntmps31
  go_upto_region 1 with fail
  have hA : Box w.heap.size k n t ((w.alloc (.cells #[.int .i64 k, .int .i64 n, .string (strOf t)] 36)).alloc (.cells #[.int .i64 k2, .int .i64 n2, .string (strOf t2)] 36)) :=
    (Box.new w k n t).step ((Below.refl _ _).alloc (Nat.le_refl _) _)
  have hB : Box (w.heap.size + 1) k2 n2 t2 ((w.alloc (.cells #[.int .i64 k, .int .i64 n, .string (strOf t)] 36)).alloc (.cells #[.int .i64 k2, .int .i64 n2, .string (strOf t2)] 36)) := by
    have := Box.new (w.alloc (.cells #[.int .i64 k, .int .i64 n, .string (strOf t)] 36)) k2 n2 t2
    rwa [show (w.alloc (.cells #[.int .i64 k, .int .i64 n, .string (strOf t)] 36)).heap.size = w.heap.size + 1 from by simp] at this
  have hW : Below w.heap.size w ((w.alloc (.cells #[.int .i64 k, .int .i64 n, .string (strOf t)] 36)).alloc (.cells #[.int .i64 k2, .int .i64 n2, .string (strOf t2)] 36)) := ((Below.refl _ _).alloc (Nat.le_refl _) _).alloc (by simp) _
  generalize ((w.alloc (.cells #[.int .i64 k, .int .i64 n, .string (strOf t)] 36)).alloc (.cells #[.int .i64 k2, .int .i64 n2, .string (strOf t2)] 36)) = W at *
  have HA := Lib.hid hA.drew
  have HB := Lib.hid hB.drew
  have HW := Lib.hid hW.drew
  clear hA hB hW
  have qa := HA.out; have qb := HB.out; have a0 := qa.c0; have a1 := qa.c1; have a2 := qa.c2; have a3 := qa.f0; have a4 := qa.f1; have a5 := qa.f2; have b0 := qb.c0; have b1 := qb.c1; have b2 := qb.c2; have b3 := qb.f0; have b4 := qb.f1; have b5 := qb.f2; clear qa qb
  go_cut [5] (fun _ wf => Below w.heap.size w wf ∧ wf.cell? ⟨w.heap.size, 0, none⟩ = some (.int .i64 k) ∧ wf.cell? ⟨w.heap.size, 1, none⟩ = some (.int .i64 n) ∧ wf.cell? ⟨w.heap.size, 2, none⟩ = some (.string (strOf t)) ∧ wf.cell? ⟨w.heap.size + 1, 0, none⟩ = some (.int .i64 k2) ∧ wf.cell? ⟨w.heap.size + 1, 1, none⟩ = some (.int .i64 n2) ∧ wf.cell? ⟨w.heap.size + 1, 2, none⟩ = some (.string (strOf t2)))
  case first =>
    go_region_with (go_at_call 40; first | (refine (HU.out _).mono ?_; rintro e wx ⟨rfl, hbx⟩; have HW := Lib.hid (HW.out.trans (hbx.mono HW.out.size)); have HA := Lib.hid (HA.out.step hbx); have HB := Lib.hid (HB.out.step hbx); clear hbx; have qa := HA.out; have qb := HB.out; have a0 := qa.c0; have a1 := qa.c1; have a2 := qa.c2; have a3 := qa.f0; have a4 := qa.f1; have a5 := qa.f2; have b0 := qb.c0; have b1 := qb.c1; have b2 := qb.c2; have b3 := qb.f0; have b4 := qb.f1; have b5 := qb.f2; clear qa qb) | (refine (HV.out _).mono ?_; rintro e wx ⟨rfl, hbx⟩; have HW := Lib.hid (HW.out.trans (hbx.mono HW.out.size)); have HA := Lib.hid (HA.out.step hbx); have HB := Lib.hid (HB.out.step hbx); clear hbx; have qa := HA.out; have qb := HB.out; have a0 := qa.c0; have a1 := qa.c1; have a2 := qa.c2; have a3 := qa.f0; have a4 := qa.f1; have a5 := qa.f2; have b0 := qb.c0; have b1 := qb.c1; have b2 := qb.c2; have b3 := qb.f0; have b4 := qb.f1; have b5 := qb.f2; clear qa qb))
    all_goals
      go_wp2_with fail
      go_meet
      have hq := six a0 a1 a2 b0 b1 b2
      exact ⟨(((((HW.out.setCell (by simp) _).setCell (by simp) _).setCell (by simp) _).setCell (by simp) _).setCell (by simp) _).setCell (by simp) _, (hq _).trans a0, (hq _).trans a1, (hq _).trans a2, (hq _).trans b0, (hq _).trans b1, (hq _).trans b2⟩
  case rest =>
    obtain ⟨hbe, r0, r1, r2, s0, s1, s2⟩ := hcut
    clear a0 a1 a2 a3 a4 a5 b0 b1 b2 b3 b4 b5
    by_cases h1 : k < k2
    · have hc : cmpV ⟨k, n, t⟩ ⟨k2, n2, t2⟩ = -1 := by unfold cmpV ltV; simp [h1]
      have HC := Lib.hid hc
      clear hc
      go_wp2_with fail
      go_ret
      exact ⟨by rw [HC.out]; rfl, hbe⟩
    · by_cases h2 : k = k2
      · subst h2
        by_cases h3 : n < n2
        · have hc : cmpV ⟨k, n, t⟩ ⟨k, n2, t2⟩ = -1 := by unfold cmpV ltV; simp [h3]
          have HC := Lib.hid hc
          clear hc
          go_wp2_with fail
          go_ret
          exact ⟨by rw [HC.out]; rfl, hbe⟩
        · cases h4 : Op.bytesLess t t2
          · by_cases h5 : n = n2
            · subst h5
              by_cases h6 : t = t2
              · subst h6
                have hc : cmpV ⟨k, n, t⟩ ⟨k, n, t⟩ = 0 := by unfold cmpV ltV; simp [h4]
                have HC := Lib.hid hc
                clear hc
                go_wp2_with fail
                go_ret
                exact ⟨by rw [HC.out]; rfl, hbe⟩
              · have h6' : (t == t2) = false := by simpa using h6
                have hc : cmpV ⟨k, n, t⟩ ⟨k, n, t2⟩ = 1 := by unfold cmpV ltV; simp [h4, h6]
                have HC := Lib.hid hc
                clear hc
                go_wp2_with fail
                go_ret
                exact ⟨by rw [HC.out]; rfl, hbe⟩
            · have h5' : (n == n2) = false := by simpa using h5
              have hc : cmpV ⟨k, n, t⟩ ⟨k, n2, t2⟩ = 1 := by unfold cmpV ltV; simp [h3, h4, h5]
              have HC := Lib.hid hc
              clear hc
              go_wp2_with fail
              go_ret
              exact ⟨by rw [HC.out]; rfl, hbe⟩
          · have hc : cmpV ⟨k, n, t⟩ ⟨k, n2, t2⟩ = -1 := by unfold cmpV ltV; simp [h4]
            have HC := Lib.hid hc
            clear hc
            go_wp2_with fail
            go_ret
            exact ⟨by rw [HC.out]; rfl, hbe⟩
      · have h2' : (k == k2) = false := by simpa using h2
        have hc : cmpV ⟨k, n, t⟩ ⟨k2, n2, t2⟩ = 1 := by unfold cmpV ltV; simp [h1, h2]
        have HC := Lib.hid hc
        clear hc
        go_wp2_with fail
        go_ret
        exact ⟨by rw [HC.out]; rfl, hbe⟩
end Go.Proofs.Ytjmpolabpgmjpaa
