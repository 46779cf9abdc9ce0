/-
  Rows as bytes, and the walk of the program's Row.
-/
import Derived.Test.YtjmpolabpgmjpaaKey
import Derived.Deep.RegionLaw
namespace Go.Proofs.Ytjmpolabpgmjpaa
open Go.RowKit

/-- The bytes of one value in a row. -/
def rowV (v : Val) : List UInt8 :=
  UInt8.ofNat v.kind.toNat :: (if v.kind = 1 then [UInt8.ofNat v.num.toNat] else if v.kind = 2 then leN (BitVec.ofInt 64 v.num) 8 else if v.kind = 3 then UInt8.ofNat v.text.length :: v.text else [])
def rowTo (vs : List Val) (k : Nat) : List UInt8 := UInt8.ofNat vs.length :: (vs.take k).flatMap rowV
def rowF (vs : List Val) : List UInt8 := UInt8.ofNat vs.length :: vs.flatMap rowV
theorem rowTo_succ (vs : List Val) (k : Nat) (v : Val) (h : vs[k]? = some v) : rowTo vs (k + 1) = rowTo vs k ++ rowV v := by
  unfold rowTo
  rw [List.take_add_one, h]
  simp
theorem rowTo_all (vs : List Val) (k : Nat) (h : vs.length ≤ k) : rowTo vs k = rowF vs := by
  unfold rowTo rowF
  rw [List.take_of_length_le h]

/-- A block of values is none of the slice's own. -/
theorem rec_far {w : World} {base n c g : Nat} {A : Option Addr} {l : List UInt8} {C : Array Value} (h : Own w base 5 A n c l) (hg : w.heap[g]? = some (.cells C 36 (0, 0))) : ∀ a, A = some a → a.block ≠ g := by
  intro a ha e
  subst ha
  subst e
  rcases h.2 with ⟨hv, _⟩ | ⟨g', cap, cur, hv, _, hh, _⟩
  · cases hv
  · injection hv with e1
    injection e1 with e1
    subst e1
    rw [hg] at hh
    injection hh with hh
    injection hh with _ ht
    cases ht

theorem rec_block (w : World) (C : Array Value) (T : TypeId) (Y : Obj) : ((w.alloc (.cells C T)).alloc Y).heap[w.heap.size]? = some (.cells C T (0, 0)) := by
  rw [Below.heap_alloc (w.alloc (.cells C T)) Y w.heap.size (by simp)]
  exact heap_alloc_new w _
theorem rec_lt {w : World} {g : Nat} {o : Obj} (h : w.heap[g]? = some o) : g < w.heap.size := by
  rcases Nat.lt_or_ge g w.heap.size with hlt | hge
  · exact hlt
  · rw [Array.getElem?_eq_none hge] at h; cases h
attribute [local go_sem] strOf_size

/-- What Row answers. -/
def RowPost (vs : List Val) (w : World) (e : Ending) (w' : World) : Prop :=
  (rightF vs 8 ≠ 0 ∧ e = .returned (.tuple #[.slice none 0 0, .int .i64 (rightF vs 8)]) ∧ Below w.heap.size w w') ∨
  (rightF vs 8 = 0 ∧ ∃ A n c, e = .returned (.tuple #[.slice A n c, .int .i64 0]) ∧ Own w' w.heap.size 5 A n c (rowF vs) ∧ n ≤ 500 ∧ Below w.heap.size w w')

set_option maxHeartbeats 1600000 in
theorem row_any (A : Option Addr) (n c : Nat) (vs : List Val) (B : Nat) (w : World) (hn : n ≤ 9223372036854775807) (hr : Vals w B A n vs) (hB : B ≤ w.heap.size) :
    Calls Try.prog 13 #[.slice A n c] w (RowPost vs w) := by
  have HL := Lib.hid hr.len
  go_enter Try.func13, Try.ntmps13
  go_wp2_with fail
  refine (right_any A n c vs 8 8 rfl B w hn hr hB).mono ?_
  rintro e w1 ⟨rfl, hb1⟩
  have hs1 := hb1.size
  rcases rightF_cases vs 8 with ⟨h0, hlen, hall⟩ | hbad
  · rw [h0]
    have H0 := Lib.hid h0
    have HALL := Lib.hid hall
    have hn3 : n ≤ 8 := by have := HL.out; omega
    clear h0 hlen hall hn
    go_wp2_with fail
    go_loopw [5, 19] (fun v iv wr => ∃ k : Nat, k ≤ n ∧ iv = .int .i64 k ∧ ∃ A N c, v = .slice A N c ∧ Own wr w.heap.size 5 A N c (rowTo vs k) ∧ N ≤ 1 + 51 * k ∧ Below w.heap.size w wr) (fun _ iv _ => n - (intOf iv).toNat)
    case atStart =>
      refine ⟨0, Nat.zero_le _, rfl, some ⟨w1.heap.size, 0, none⟩, 1, 1, rfl, ?_, by omega, hb1.alloc hs1 _⟩
      have h1 := World.ownsRow_lit (base := w.heap.size) (e := 5) (size := 1) w1 #[.int .u8 (n : Int)] 1 hs1 (by unfold maxLen; omega) rfl
      have h2 : ([Value.int .u8 (n : Int)] : List Value) = (rowTo vs 0).map u8v := by
        unfold rowTo u8v
        rw [HL.out]
        simp [n8_of n (by omega)]
      unfold Own
      rw [← h2]
      exact h1
    case round =>
      obtain ⟨k, hk, rfl, A2, N, c2, rfl, hown, hN, hbr⟩ := hrel
      have hsr := hbr.size
      by_cases hlt : k < n
      · obtain ⟨b, off, v, rfl, hb, hv, hf, hc0, hc1, hc2⟩ := (hr.below (hbr.mono hB)).at_ hlt
        have p1 : (k : Int) < (n : Int) := by omega
        have HK := Lib.hid (rowTo_succ vs k v hv)
        have hblk := Lib.hid hown.blk
        rcases isV_cases v (HALL.out v (List.mem_of_getElem? hv)) with rfl | (rfl | rfl) | hi | ⟨ht, ht1, ht2⟩
        · clear hv hf
          have tok : True := trivial
          go_wp2_with (at_builtin; have _t := tok; refine wpList_append_byt_k bty _ rfl (.tmp 23) (.tmp 27) rfl rfl rfl ((hown.alloc _).alloc _) (Byt.one2 wr _ 5 0 _ rfl) (by omega) (by omega) (by simp; omega) ?_; intro A3 c3 w3 hown3 hb3 hst3; have hb3' := ((hbr.alloc hsr _).alloc (by simp; omega) _).trans hb3; have hs3 := hb3'.size; have hr0 := rec_stays hst3 hblk.out 0 _ rfl; clear tok)
          go_roundw
          case rel => exact ⟨k + 1, by omega, by go_num, A3, _, c3, rfl, by rw [HK.out]; exact hown3, by omega, hb3'⟩
          case measure => simp [intOf]; omega
        · clear hv hf
          have tok : True := trivial
          go_wp2_with (first | (at_builtin; have _t := tok; refine wpList_append_byt_k bty _ rfl (.tmp 23) (.tmp 27) rfl rfl rfl ((hown.alloc _).alloc _) (Byt.one2 wr _ 5 1 _ rfl) (by omega) (by omega) (by simp; omega) ?_; intro A3 c3 w3 hown3 hb3 hst3; have hb3' := ((hbr.alloc hsr _).alloc (by simp; omega) _).trans hb3; have hs3 := hb3'.size; have hr0 := rec_stays hst3 hblk.out 0 _ rfl; clear tok; have hr1 := rec_stays hst3 hblk.out 1 _ rfl) | (at_builtin; refine wpList_append_byt bty _ rfl (.tmp 33) (.tmp 37) rfl rfl rfl (hown3.alloc _) (Byt.one' w3 5 0 _ rfl _ (Nat.lt_succ_self _)) (by omega) (by simp; omega) ?_; intro A4 c4 w4 hown4 hb4))
          go_roundw
          case rel => exact ⟨k + 1, by omega, by go_num, A4, _, c4, rfl, by rw [HK.out]; rw [List.append_assoc] at hown4; exact hown4, by omega, (hb3'.alloc hs3 _).trans hb4⟩
          case measure => simp [intOf]; omega
        · clear hv hf
          have tok : True := trivial
          go_wp2_with (first | (at_builtin; have _t := tok; refine wpList_append_byt_k bty _ rfl (.tmp 23) (.tmp 27) rfl rfl rfl ((hown.alloc _).alloc _) (Byt.one2 wr _ 5 1 _ rfl) (by omega) (by omega) (by simp; omega) ?_; intro A3 c3 w3 hown3 hb3 hst3; have hb3' := ((hbr.alloc hsr _).alloc (by simp; omega) _).trans hb3; have hs3 := hb3'.size; have hr0 := rec_stays hst3 hblk.out 0 _ rfl; clear tok; have hr1 := rec_stays hst3 hblk.out 1 _ rfl) | (at_builtin; refine wpList_append_byt bty _ rfl (.tmp 33) (.tmp 37) rfl rfl rfl (hown3.alloc _) (Byt.one' w3 5 1 _ rfl _ (Nat.lt_succ_self _)) (by omega) (by simp; omega) ?_; intro A4 c4 w4 hown4 hb4))
          go_roundw
          case rel => exact ⟨k + 1, by omega, by go_num, A4, _, c4, rfl, by rw [HK.out]; rw [List.append_assoc] at hown4; exact hown4, by omega, (hb3'.alloc hs3 _).trans hb4⟩
          case measure => simp [intOf]; omega
        · obtain ⟨kd, num, tx⟩ := v
          simp only [Val.mk.injEq, true_and] at hi
          obtain ⟨rfl, rfl⟩ := hi
          clear hv hf
          have tok : True := trivial
          have HKI := Lib.hid (wrap_ofInt num)
          go_wp2_with (at_builtin; have _t := tok; refine wpList_append_byt_k bty _ rfl (.tmp 23) (.tmp 27) rfl rfl rfl ((hown.alloc _).alloc _) (Byt.one2 wr _ 5 2 _ rfl) (by omega) (by omega) (by simp; omega) ?_; intro A3 c3 w3 hown3 hb3 hst3; have hb3' := ((hbr.alloc hsr _).alloc (by simp; omega) _).trans hb3; have hs3 := hb3'.size; have hr0 := rec_stays hst3 hblk.out 0 _ rfl; clear tok; have hr1 := rec_stays hst3 hblk.out 1 _ rfl)
          refine (little_any A3 (N + 1) c3 _ _ (BitVec.ofInt 64 num) HKI.out 8 8 rfl w.heap.size w3 (by omega) (by omega) hown3 (by omega)).mono ?_
          rintro e w4 ⟨A4, c4, rfl, hown4, hb4⟩
          go_wp2_with fail
          go_roundw
          case rel => exact ⟨k + 1, by omega, by go_num, A4, _, c4, rfl, by rw [HK.out]; rw [List.append_assoc] at hown4; exact hown4, by omega, hb3'.trans hb4⟩
          case measure => simp [intOf]; omega
        · obtain ⟨kd, num, tx⟩ := v
          simp only [Val.mk.injEq, and_true] at ht
          obtain ⟨rfl, rfl⟩ := ht
          clear hv hf
          have tok : True := trivial
          have hlt1 : tx.length ≤ 40 := ht1
          have hlt2 : (tx.length : Int) ≤ 40 := by omega
          have HN8 : Hid (n8 (UInt8.ofNat tx.length) = IntKind.u8.wrap (tx.length : Int)) := by
            show n8 (UInt8.ofNat tx.length) = IntKind.u8.wrap (tx.length : Int)
            rw [n8_of _ (by omega), IntKind.wrap_u8]
            omega
          clear ht1 ht2
          go_wp2_with (at_builtin; have _t := tok; refine wpList_append_byt_k bty _ rfl (.tmp 23) (.tmp 27) rfl rfl rfl ((hown.alloc _).alloc _) (Byt.one2 wr _ 5 3 _ rfl) (by omega) (by omega) (by simp; omega) ?_; intro A3 c3 w3 hown3 hb3 hst3; have hb3' := ((hbr.alloc hsr _).alloc (by simp; omega) _).trans hb3; have hs3 := hb3'.size; have hr0 := rec_stays hst3 hblk.out 0 _ rfl; have hrec := (hst3 wr.heap.size (by simp; omega) (fun a ha => by have := (hblk.out a ha).2; omega)).trans (rec_block wr _ 36 _); have HREC := Lib.hid hrec; clear hrec; clear tok; have hr1 := rec_stays hst3 hblk.out 2 _ rfl)
          have hfar := Lib.hid (fun a ha => rec_far hown3 HREC.out a ha)
          have hlt3 := rec_lt HREC.out
          go_region_law (first
            | (refine step_append_byt_k bty _ rfl (.tmp 48) (.tmp 53) rfl rfl rfl (hown3.alloc _).drew (Byt.one' w3 5 (UInt8.ofNat tx.length) _ HN8.out _ (Nat.lt_succ_self _)).drew (by omega) (by omega) (by simp; omega) ?_; intro A4 c4 w4 hown4 hb4 hst4; have hr4 : w4.cell? ⟨wr.heap.size, 2, none⟩ = some (.string (strOf tx)) := (hst4.cell (by simp; omega) hfar.out ((World.cell?_alloc_lt w3 _ ⟨wr.heap.size, 2, none⟩ hlt3).trans hr1)); have hs4 := hb4.size)
            | (refine step_append_txt bty Try.underlying9 _ rfl (.tmp 54) (.tmp 56) rfl rfl rfl hown4 (by omega) (by simp at hs4; omega) ?_; intro A5 c5 w5 hown5 hb5))
          all_goals
            go_wp2_with fail
            go_roundw
            case rel => exact ⟨k + 1, by omega, by go_num, A5, _, c5, rfl, by rw [HK.out]; rw [List.append_assoc, List.append_assoc] at hown5; exact hown5, by omega, (((hb3'.alloc hs3 _).drew).trans hb4).trans hb5⟩
            case measure => simp [intOf]; omega
      · obtain rfl : k = n := by omega
        have HA := Lib.hid (rowTo_all vs k (by have := HL.out; omega))
        go_wp2_with fail
        go_ret2
        exact .inr ⟨H0.out, A2, N, c2, rfl, by rw [← HA.out]; exact hown, by omega, hbr⟩
  · have hne : ((rightF vs 8 : Nat) : Int) ≠ 0 := by omega
    have hne2 : (((rightF vs 8 : Nat) : Int) != 0) = true := by rw [bne_iff_ne]; exact hne
    have hz : rightF vs 8 ≠ 0 := by omega
    have HZ := Lib.hid hz
    clear hne hz hbad
    generalize hR : rightF vs 8 = R at *
    have HR := Lib.hid hR
    clear hR
    go_wp2_with fail
    go_ret2
    exact .inl ⟨by rw [HR.out]; exact HZ.out, by rw [HR.out]; rfl, hb1⟩
end Go.Proofs.Ytjmpolabpgmjpaa
