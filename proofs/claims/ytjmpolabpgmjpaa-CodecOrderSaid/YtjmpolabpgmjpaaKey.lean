/-
  Keys as bytes, and the walk of the program's Key.
-/
import Derived.Test.YtjmpolabpgmjpaaGrow
import Derived.Test.YtjmpolabpgmjpaaVals
namespace Go.Proofs.Ytjmpolabpgmjpaa
open Go.RowKit

theorem Byt.one' (w : World) (E : TypeId) (c : UInt8) (x : Int) (hx : n8 c = x) (B : Nat) (hB : w.heap.size < B) : Byt (w.alloc (.cells #[.int .u8 x] E)) B (some ⟨w.heap.size, 0, none⟩) 1 [c] := by
  subst hx
  exact Byt.one w E c B hB

theorem Byt.one2 (w : World) (X : Obj) (E : TypeId) (c : UInt8) (x : Int) (hx : n8 c = x) : Byt ((w.alloc X).alloc (.cells #[.int .u8 x] E)) (w.heap.size + 2) (some ⟨w.heap.size + 1, 0, none⟩) 1 [c] := by
  have := Byt.one' (w.alloc X) E c x hx (w.heap.size + 2) (by simp)
  have hs : (w.alloc X).heap.size = w.heap.size + 1 := by simp
  rwa [hs] at this
/-- The three cells of a value's own block. -/
theorem rec_cell (w : World) (C : Array Value) (T : TypeId) (Y : Obj) (i : Nat) : ((w.alloc (.cells C T)).alloc Y).cell? ⟨w.heap.size, i, none⟩ = C[i]? := by
  rw [World.cell?_alloc_lt (w.alloc (.cells C T)) Y ⟨w.heap.size, i, none⟩ (by simp)]
  exact cell_of_row _ w.heap.size i C T (0, 0) (heap_alloc_new w _)
theorem rec_stays {w w3 : World} {C : Array Value} {T : TypeId} {Y : Obj} {A : Option Addr} {base : Nat} (h : Stays A ((w.alloc (.cells C T)).alloc Y) w3) (hA : ∀ a, A = some a → base ≤ a.block ∧ a.block < w.heap.size)
    (i : Nat) (v : Value) (hv : C[i]? = some v) : w3.cell? ⟨w.heap.size, i, none⟩ = some v :=
  h.cell (by simp; omega) (fun a ha => by have := (hA a ha).2; simp; omega) ((rec_cell w C T Y i).trans hv)

theorem wrap_ofInt (n : Int) : IntKind.u64.wrap n = n64 (BitVec.ofInt 64 n) := by
  rw [IntKind.wrap_u64]
  unfold n64
  rw [BitVec.toNat_ofInt]
  omega
theorem key_int (n : Int) : bits .xor .u64 (IntKind.u64.wrap n) 9223372036854775808 = n64 (BitVec.ofInt 64 n ^^^ 9223372036854775808#64) := by
  have h : (9223372036854775808 : Int) = n64 9223372036854775808#64 := by decide
  rw [wrap_ofInt, h, xor64]

/-- What a value is. -/
theorem isV_cases (v : Val) (h : isV v = true) :
    v = ⟨0, 0, []⟩ ∨ (v = ⟨1, 0, []⟩ ∨ v = ⟨1, 1, []⟩) ∨ v = ⟨2, v.num, []⟩ ∨ (v = ⟨3, 0, v.text⟩ ∧ v.text.length ≤ 40 ∧ ¬ (0 : UInt8) ∈ v.text) := by
  obtain ⟨k, n, t⟩ := v
  by_cases h0 : k = 0
  · subst h0
    rw [isV_zero] at h
    simp at h
    obtain ⟨rfl, rfl⟩ := h
    exact .inl rfl
  · by_cases h1 : k = 1
    · subst h1
      rw [isV_one] at h
      simp at h
      obtain ⟨h, rfl⟩ := h
      rcases h with rfl | rfl
      · exact .inr (.inl (.inl rfl))
      · exact .inr (.inl (.inr rfl))
    · by_cases h2 : k = 2
      · subst h2
        rw [isV_two] at h
        simp at h
        subst h
        exact .inr (.inr (.inl rfl))
      · by_cases h3 : k = 3
        · subst h3
          rw [isV_three] at h
          simp at h
          obtain ⟨rfl, h4, h5⟩ := h
          exact .inr (.inr (.inr ⟨rfl, h4, h5⟩))
        · rw [isV_else k n t h0 h1 h2 h3] at h
          cases h

/-- The bytes of one value in a key. -/
def keyV (v : Val) : List UInt8 :=
  UInt8.ofNat v.kind.toNat :: (if v.kind = 1 then [UInt8.ofNat v.num.toNat] else if v.kind = 2 then beTo (BitVec.ofInt 64 v.num ^^^ 9223372036854775808#64) 8 8 else if v.kind = 3 then v.text ++ [0] else [])
def keyTo (vs : List Val) (k : Nat) : List UInt8 := (vs.take k).flatMap keyV
def keyF (vs : List Val) : List UInt8 := vs.flatMap keyV
theorem keyTo_succ (vs : List Val) (k : Nat) (v : Val) (h : vs[k]? = some v) : keyTo vs (k + 1) = keyTo vs k ++ keyV v := by
  unfold keyTo
  rw [List.take_add_one, h]
  simp
theorem keyTo_all (vs : List Val) (k : Nat) (h : vs.length ≤ k) : keyTo vs k = keyF vs := by
  unfold keyTo keyF
  rw [List.take_of_length_le h]

theorem rightF_cases (vs : List Val) (most : Nat) : (rightF vs most = 0 ∧ vs.length ≤ most ∧ ∀ v ∈ vs, isV v = true) ∨ (rightF vs most = 71 ∨ rightF vs most = 60) := by
  unfold rightF
  by_cases h : most < vs.length
  · right; left; rw [if_pos h]
  · rw [if_neg h]
    by_cases ha : vs.all isV = true
    · left
      rw [if_pos ha]
      rw [List.all_eq_true] at ha
      exact ⟨rfl, by omega, ha⟩
    · right; right; rw [if_neg ha]

/-- What Key answers. -/
def KeyPost (vs : List Val) (w : World) (e : Ending) (w' : World) : Prop :=
  (rightF vs 3 ≠ 0 ∧ e = .returned (.tuple #[.slice none 0 0, .int .i64 (rightF vs 3)]) ∧ Below w.heap.size w w') ∨
  (rightF vs 3 = 0 ∧ ∃ A n c, e = .returned (.tuple #[.slice A n c, .int .i64 0]) ∧ Own w' w.heap.size 5 A n c (keyF vs) ∧ n ≤ 200 ∧ Below w.heap.size w w')

set_option maxHeartbeats 1600000 in
theorem key_any (A : Option Addr) (n c : Nat) (vs : List Val) (B : Nat) (w : World) (hn : n ≤ 9223372036854775807) (hr : Vals w B A n vs) (hB : B ≤ w.heap.size) :
    Calls Try.prog 15 #[.slice A n c] w (KeyPost vs w) := by
  have HL := Lib.hid hr.len
  go_enter Try.func15, Try.ntmps15
  go_wp2_with fail
  refine (right_any A n c vs 3 3 rfl B w hn hr hB).mono ?_
  rintro e w1 ⟨rfl, hb1⟩
  have hs1 := hb1.size
  rcases rightF_cases vs 3 with ⟨h0, hlen, hall⟩ | hbad
  · rw [h0]
    have H0 := Lib.hid h0
    have HALL := Lib.hid hall
    have hn3 : n ≤ 3 := by have := HL.out; omega
    clear h0 hlen hall hn
    go_wp2_with fail
    go_loopw [5, 15] (fun v iv wr => ∃ k : Nat, k ≤ n ∧ iv = .int .i64 k ∧ ∃ A N c, v = .slice A N c ∧ Own wr w.heap.size 5 A N c (keyTo vs k) ∧ N ≤ 51 * k ∧ Below w.heap.size w wr) (fun _ iv _ => n - (intOf iv).toNat)
    case atStart => exact ⟨0, Nat.zero_le _, rfl, none, 0, 0, rfl, Own.nil_ _ _ _, by omega, hb1⟩
    case round =>
      obtain ⟨k, hk, rfl, A2, N, c2, rfl, hown, hN, hbr⟩ := hrel
      have hsr := hbr.size
      by_cases hlt : k < n
      · obtain ⟨b, off, v, rfl, hb, hv, hf, hc0, hc1, hc2⟩ := (hr.below (hbr.mono hB)).at_ hlt
        have p1 : (k : Int) < (n : Int) := by omega
        have HK := Lib.hid (keyTo_succ vs k v hv)
        have hblk := Lib.hid hown.blk
        rcases isV_cases v (HALL.out v (List.mem_of_getElem? hv)) with rfl | (rfl | rfl) | hi | ⟨ht, ht1, ht2⟩
        · clear hv hf
          have tok : True := trivial
          go_wp2_with (at_builtin; have _t := tok; refine wpList_append_byt_k bty _ rfl (.tmp 19) (.tmp 23) rfl rfl rfl ((hown.alloc _).alloc _) (Byt.one2 wr _ 5 0 _ rfl) (by omega) (by omega) (by simp; omega) ?_; intro A3 c3 w3 hown3 hb3 hst3; have hb3' := ((hbr.alloc hsr _).alloc (by simp; omega) _).trans hb3; have hs3 := hb3'.size; have hr0 := rec_stays hst3 hblk.out 0 _ rfl; clear tok)
          go_roundw
          case rel => exact ⟨k + 1, by omega, by go_num, A3, _, c3, rfl, by rw [HK.out]; exact hown3, by omega, hb3'⟩
          case measure => simp [intOf]; omega
        · clear hv hf
          have tok : True := trivial
          go_wp2_with (first | (at_builtin; have _t := tok; refine wpList_append_byt_k bty _ rfl (.tmp 19) (.tmp 23) rfl rfl rfl ((hown.alloc _).alloc _) (Byt.one2 wr _ 5 1 _ rfl) (by omega) (by omega) (by simp; omega) ?_; intro A3 c3 w3 hown3 hb3 hst3; have hb3' := ((hbr.alloc hsr _).alloc (by simp; omega) _).trans hb3; have hs3 := hb3'.size; have hr0 := rec_stays hst3 hblk.out 0 _ rfl; clear tok; have hr1 := rec_stays hst3 hblk.out 1 _ rfl) | (at_builtin; refine wpList_append_byt bty _ rfl (.tmp 29) (.tmp 33) rfl rfl rfl (hown3.alloc _) (Byt.one' w3 5 0 _ rfl _ (Nat.lt_succ_self _)) (by omega) (by simp; omega) ?_; intro A4 c4 w4 hown4 hb4))
          go_roundw
          case rel => exact ⟨k + 1, by omega, by go_num, A4, _, c4, rfl, by rw [HK.out]; rw [List.append_assoc] at hown4; exact hown4, by omega, (hb3'.alloc hs3 _).trans hb4⟩
          case measure => simp [intOf]; omega
        · clear hv hf
          have tok : True := trivial
          go_wp2_with (first | (at_builtin; have _t := tok; refine wpList_append_byt_k bty _ rfl (.tmp 19) (.tmp 23) rfl rfl rfl ((hown.alloc _).alloc _) (Byt.one2 wr _ 5 1 _ rfl) (by omega) (by omega) (by simp; omega) ?_; intro A3 c3 w3 hown3 hb3 hst3; have hb3' := ((hbr.alloc hsr _).alloc (by simp; omega) _).trans hb3; have hs3 := hb3'.size; have hr0 := rec_stays hst3 hblk.out 0 _ rfl; clear tok; have hr1 := rec_stays hst3 hblk.out 1 _ rfl) | (at_builtin; refine wpList_append_byt bty _ rfl (.tmp 29) (.tmp 33) rfl rfl rfl (hown3.alloc _) (Byt.one' w3 5 1 _ rfl _ (Nat.lt_succ_self _)) (by omega) (by simp; omega) ?_; intro A4 c4 w4 hown4 hb4))
          go_roundw
          case rel => exact ⟨k + 1, by omega, by go_num, A4, _, c4, rfl, by rw [HK.out]; rw [List.append_assoc] at hown4; exact hown4, by omega, (hb3'.alloc hs3 _).trans hb4⟩
          case measure => simp [intOf]; omega
        · obtain ⟨kd, num, tx⟩ := v
          simp only [Val.mk.injEq, true_and] at hi
          obtain ⟨rfl, rfl⟩ := hi
          clear hv hf
          have tok : True := trivial
          have HKI := Lib.hid (key_int num)
          go_wp2_with (at_builtin; have _t := tok; refine wpList_append_byt_k bty _ rfl (.tmp 19) (.tmp 23) rfl rfl rfl ((hown.alloc _).alloc _) (Byt.one2 wr _ 5 2 _ rfl) (by omega) (by omega) (by simp; omega) ?_; intro A3 c3 w3 hown3 hb3 hst3; have hb3' := ((hbr.alloc hsr _).alloc (by simp; omega) _).trans hb3; have hs3 := hb3'.size; have hr0 := rec_stays hst3 hblk.out 0 _ rfl; clear tok; have hr1 := rec_stays hst3 hblk.out 1 _ rfl)
          refine (big_any A3 (N + 1) c3 _ _ (BitVec.ofInt 64 num ^^^ 9223372036854775808#64) HKI.out 8 8 rfl w.heap.size w3 (by omega) (by omega) hown3 (by omega)).mono ?_
          rintro e w4 ⟨A4, c4, rfl, hown4, hb4⟩
          go_wp2_with fail
          go_roundw
          case rel => exact ⟨k + 1, by omega, by go_num, A4, _, c4, rfl, by rw [HK.out]; rw [List.append_assoc] at hown4; exact hown4, by omega, hb3'.trans hb4⟩
          case measure => simp [intOf]; omega
        · obtain ⟨kd, num, tx⟩ := v
          simp only [Val.mk.injEq, and_true] at ht
          obtain ⟨rfl, rfl⟩ := ht
          clear hv hf
          have tok : True := trivial
          have hlt1 : tx.length ≤ 40 := ht1
          clear ht1 ht2
          go_wp2_with (first | (at_builtin; have _t := tok; refine wpList_append_byt_k bty _ rfl (.tmp 19) (.tmp 23) rfl rfl rfl ((hown.alloc _).alloc _) (Byt.one2 wr _ 5 3 _ rfl) (by omega) (by omega) (by simp; omega) ?_; intro A3 c3 w3 hown3 hb3 hst3; have hb3' := ((hbr.alloc hsr _).alloc (by simp; omega) _).trans hb3; have hs3 := hb3'.size; have hr0 := rec_stays hst3 hblk.out 0 _ rfl; clear tok; have hr1 := rec_stays hst3 hblk.out 2 _ rfl) | (at_builtin; refine wpList_append_txt bty Try.underlying9 _ rfl (.tmp 45) (.tmp 47) rfl rfl rfl hown3 (by omega) (by omega) ?_; intro A4 c4 w4 hown4 hb4; have hs4 := hb4.size) | (at_builtin; refine wpList_append_byt bty _ rfl (.tmp 48) (.tmp 49) rfl rfl rfl (hown4.alloc _) (Byt.one' w4 5 0 _ rfl _ (Nat.lt_succ_self _)) (by omega) (by simp; omega) ?_; intro A5 c5 w5 hown5 hb5))
          go_roundw
          case rel => exact ⟨k + 1, by omega, by go_num, A5, _, c5, rfl, by rw [HK.out]; rw [List.append_assoc, List.append_assoc] at hown5; exact hown5, by omega, ((hb3'.trans hb4).alloc (Nat.le_trans hs3 hs4) _).trans hb5⟩
          case measure => simp [intOf]; omega
      · obtain rfl : k = n := by omega
        have HA := Lib.hid (keyTo_all vs k (by have := HL.out; omega))
        go_wp2_with fail
        go_ret2
        exact .inr ⟨H0.out, A2, N, c2, rfl, by rw [← HA.out]; exact hown, by omega, hbr⟩
  · have hne : ((rightF vs 3 : Nat) : Int) ≠ 0 := by omega
    have hne2 : (((rightF vs 3 : Nat) : Int) != 0) = true := by rw [bne_iff_ne]; exact hne
    have hz : rightF vs 3 ≠ 0 := by omega
    have HZ := Lib.hid hz
    clear hne hz hbad
    generalize hR : rightF vs 3 = R at *
    have HR := Lib.hid hR
    clear hR
    go_wp2_with fail
    go_ret2
    exact .inl ⟨by rw [HR.out]; exact HZ.out, by rw [HR.out]; rfl, hb1⟩
end Go.Proofs.Ytjmpolabpgmjpaa
