/-
  The walk of the document's Row.
-/
import Derived.Test.YtjmpolabpgmjpaaRow
namespace Go.Proofs.Ytjmpolabpgmjpaa
open Go.RowKit

section
attribute [local go_sem] strOf_size
def rowX (n : Int) : BitVec 64 := BitVec.ofInt 64 n
theorem wrap_row (n : Int) : IntKind.u64.wrap n = n64 (rowX n) := wrap_ofInt n
attribute [local go_sem] wrap_row

set_option maxHeartbeats 1600000 in
theorem rrow_any (A : Option Addr) (n c : Nat) (vs : List Val) (B : Nat) (w : World) (hn : n ≤ 9223372036854775807) (hr : Vals w B A n vs) (hB : B ≤ w.heap.size) :
    Calls Try.prog 14 #[.slice A n c] w (RowPost vs w) := by
  have HL := Lib.hid hr.len
  go_enter Try.func14, Try.ntmps14
  go_wp2_with fail
  refine (values_any A n c vs 8 8 rfl B w hn hr hB).mono ?_
  rintro e w1 ⟨rfl, hb1⟩
  have hs1 := hb1.size
  rcases rightF_cases vs 8 with ⟨h0, hlen, hall⟩ | hbad
  · rw [h0]
    have H0 := Lib.hid h0
    have HALL := Lib.hid hall
    have hn3 : n ≤ 8 := by have := HL.out; omega
    clear h0 hlen hall hn
    go_wp2_with fail
    go_loopw [5, 6] (fun v iv wr => ∃ k : Nat, k ≤ n ∧ iv = .int .i64 k ∧ ∃ A N c, v = .slice A N c ∧ Own wr w.heap.size 5 A N c (rowTo vs k) ∧ N ≤ 1 + 51 * k ∧ Below w.heap.size w wr) (fun _ iv _ => n - (intOf iv).toNat)
    case atStart =>
      refine ⟨0, Nat.zero_le _, rfl, some ⟨w1.heap.size, 0, none⟩, 1, 1, rfl, ?_, by omega, hb1.alloc hs1 _⟩
      have h1 := World.ownsRow_lit (base := w.heap.size) (e := 5) (size := 1) w1 #[.int .u8 (n : Int)] 1 hs1 (by unfold maxLen; omega) rfl
      have h2 : ([Value.int .u8 (n : Int)] : List Value) = (rowTo vs 0).map u8v := by
        unfold rowTo u8v
        rw [HL.out]
        simp [n8_of n (by omega)]
      unfold Own
      rw [← h2]
      exact h1
    case round =>
      obtain ⟨k, hk, rfl, A2, N, c2, rfl, hown, hN, hbr⟩ := hrel
      have hsr := hbr.size
      by_cases hlt : k < n
      · obtain ⟨b, off, v, rfl, hb, hv, hf, hc0, hc1, hc2⟩ := (hr.below (hbr.mono hB)).at_ hlt
        have p1 : (k : Int) < (n : Int) := by omega
        have HK := Lib.hid (rowTo_succ vs k v hv)
        have hblk := Lib.hid hown.blk
        rcases isV_cases v (HALL.out v (List.mem_of_getElem? hv)) with rfl | (rfl | rfl) | hi | ⟨ht, ht1, ht2⟩
        · clear hv hf
          have tok : True := trivial
          go_wp2_with (at_builtin; have _t := tok; refine wpList_append_byt_k bty _ rfl (.tmp 28) (.tmp 32) rfl rfl rfl ((hown.alloc _).alloc _) (Byt.one2 wr _ 5 0 _ rfl) (by omega) (by omega) (by simp; omega) ?_; intro A3 c3 w3 hown3 hb3 hst3; have hb3' := ((hbr.alloc hsr _).alloc (by simp; omega) _).trans hb3; have hs3 := hb3'.size; have hr0 := rec_stays hst3 hblk.out 0 _ rfl; clear tok)
          go_roundw
          case rel => exact ⟨k + 1, by omega, by go_num, A3, _, c3, rfl, by rw [HK.out]; exact hown3, by omega, hb3'⟩
          case measure => simp [intOf]; omega
        · clear hv hf
          have tok : True := trivial
          go_wp2_with (first | (at_builtin; have _t := tok; refine wpList_append_byt_k bty _ rfl (.tmp 28) (.tmp 32) rfl rfl rfl ((hown.alloc _).alloc _) (Byt.one2 wr _ 5 1 _ rfl) (by omega) (by omega) (by simp; omega) ?_; intro A3 c3 w3 hown3 hb3 hst3; have hb3' := ((hbr.alloc hsr _).alloc (by simp; omega) _).trans hb3; have hs3 := hb3'.size; have hr0 := rec_stays hst3 hblk.out 0 _ rfl; clear tok; have hr1 := rec_stays hst3 hblk.out 1 _ rfl) | (at_builtin; refine wpList_append_byt bty _ rfl (.tmp 38) (.tmp 42) rfl rfl rfl (hown3.alloc _) (Byt.one' w3 5 0 _ rfl _ (Nat.lt_succ_self _)) (by omega) (by simp; omega) ?_; intro A4 c4 w4 hown4 hb4))
          go_roundw
          case rel => exact ⟨k + 1, by omega, by go_num, A4, _, c4, rfl, by rw [HK.out]; rw [List.append_assoc] at hown4; exact hown4, by omega, (hb3'.alloc hs3 _).trans hb4⟩
          case measure => simp [intOf]; omega
        · clear hv hf
          have tok : True := trivial
          go_wp2_with (first | (at_builtin; have _t := tok; refine wpList_append_byt_k bty _ rfl (.tmp 28) (.tmp 32) rfl rfl rfl ((hown.alloc _).alloc _) (Byt.one2 wr _ 5 1 _ rfl) (by omega) (by omega) (by simp; omega) ?_; intro A3 c3 w3 hown3 hb3 hst3; have hb3' := ((hbr.alloc hsr _).alloc (by simp; omega) _).trans hb3; have hs3 := hb3'.size; have hr0 := rec_stays hst3 hblk.out 0 _ rfl; clear tok; have hr1 := rec_stays hst3 hblk.out 1 _ rfl) | (at_builtin; refine wpList_append_byt bty _ rfl (.tmp 38) (.tmp 42) rfl rfl rfl (hown3.alloc _) (Byt.one' w3 5 1 _ rfl _ (Nat.lt_succ_self _)) (by omega) (by simp; omega) ?_; intro A4 c4 w4 hown4 hb4))
          go_roundw
          case rel => exact ⟨k + 1, by omega, by go_num, A4, _, c4, rfl, by rw [HK.out]; rw [List.append_assoc] at hown4; exact hown4, by omega, (hb3'.alloc hs3 _).trans hb4⟩
          case measure => simp [intOf]; omega
        · obtain ⟨kd, num, tx⟩ := v
          simp only [Val.mk.injEq, true_and] at hi
          obtain ⟨rfl, rfl⟩ := hi
          clear hv hf
          have tok : True := trivial
          go_wp2_with (at_builtin; have _t := tok; refine wpList_append_byt_k bty _ rfl (.tmp 28) (.tmp 32) rfl rfl rfl ((hown.alloc _).alloc _) (Byt.one2 wr _ 5 2 _ rfl) (by omega) (by omega) (by simp; omega) ?_; intro A3 c3 w3 hown3 hb3 hst3; have hb3' := ((hbr.alloc hsr _).alloc (by simp; omega) _).trans hb3; have hs3 := hb3'.size; have hr0 := rec_stays hst3 hblk.out 0 _ rfl; have hrec := (hst3 wr.heap.size (by simp; omega) (fun a ha => by have := (hblk.out a ha).2; omega)).trans (rec_block wr _ 36 _); have HREC := Lib.hid hrec; clear hrec; clear tok; have hr1 := rec_stays hst3 hblk.out 1 _ rfl)
          obtain ⟨G, HG⟩ : ∃ G, Hid (G = wr.heap.size) := ⟨_, rfl⟩
          have HREC0 : Hid (w3.heap[G]? = some (.cells #[.int .i64 2, .int .i64 num, .string (strOf [])] 36 (0, 0))) := by
            show w3.heap[G]? = _
            rw [HG.out]
            exact HREC.out
          clear HREC
          go_loopw [5, 8] (fun v i wi => ∃ r : Nat, r ≤ 8 ∧ i = .int .i64 (r : Int) ∧ ∃ A' c', v = .slice A' (N + 1 + r) c' ∧ Own wi w.heap.size 5 A' (N + 1 + r) c' ((rowTo vs k ++ [2]) ++ leN (rowX num) r) ∧ Below w.heap.size w wi ∧ Hid (wi.heap[G]? = some (.cells #[.int .i64 2, .int .i64 num, .string (strOf [])] 36 (0, 0)))) (fun _ i _ => 8 - (intOf i).toNat)
          case atStart => exact ⟨0, by omega, rfl, A3, c3, rfl, by simpa [leN_zero] using hown3, hb3', HREC0⟩
          case round =>
            obtain ⟨r, hr, rfl, A4, c4, rfl, hown4, hb4, HRC⟩ := hrel
            by_cases hlt8 : r < 8
            · have hby := n8_by64 (rowX num) r
              have HL2 := Lib.hid (leN_succ (rowX num) r)
              have hr4 : wr.cell? ⟨G, 1, none⟩ = some (.int .i64 num) := (cell_of_row _ G 1 _ 36 (0, 0) HRC.out)
              rw [HG.out] at hr4
              have hfar := Lib.hid (fun a ha => rec_far hown4 HRC.out a ha)
              have hlt3 := rec_lt HRC.out
              have hsz := hb4.size
              generalize by64 (rowX num) r = d at *
              go_wp2_with (at_builtin; refine wpList_append_byt_k bty _ rfl (.tmp 50) (.tmp 58) rfl rfl rfl (hown4.alloc _) (Byt.one wr 5 d (wr.heap.size + 1) (by omega)) (by omega) (by omega) (by simp; omega) ?_; intro A5 c5 w5 hown5 hb5 hst5)
              have hrec5 := Lib.hid ((hst5 G (by simp; omega) hfar.out).trans ((Below.heap_alloc wr _ G hlt3).trans HRC.out))
              go_roundw
              case rel => exact ⟨r + 1, by omega, by go_num, A5, c5, rfl, by rw [HL2.out, ← List.append_assoc]; exact hown5, (hb4.alloc (by omega) _).trans hb5, hrec5⟩
              case measure => simp [intOf]; omega
            · obtain rfl : r = 8 := by omega
              go_wp2_with fail
              go_roundw
              case rel => exact ⟨k + 1, by omega, by go_num, A4, _, c4, rfl, by rw [HK.out]; rw [List.append_assoc] at hown4; exact hown4, by omega, hb4⟩
              case measure => simp [intOf]; omega
        · obtain ⟨kd, num, tx⟩ := v
          simp only [Val.mk.injEq, and_true] at ht
          obtain ⟨rfl, rfl⟩ := ht
          clear hv hf
          have tok : True := trivial
          have hlt1 : tx.length ≤ 40 := ht1
          have hlt2 : (tx.length : Int) ≤ 40 := by omega
          have HN8 : Hid (n8 (UInt8.ofNat tx.length) = IntKind.u8.wrap (tx.length : Int)) := by
            show n8 (UInt8.ofNat tx.length) = IntKind.u8.wrap (tx.length : Int)
            rw [n8_of _ (by omega), IntKind.wrap_u8]
            omega
          clear ht1 ht2
          go_wp2_with (at_builtin; have _t := tok; refine wpList_append_byt_k bty _ rfl (.tmp 28) (.tmp 32) rfl rfl rfl ((hown.alloc _).alloc _) (Byt.one2 wr _ 5 3 _ rfl) (by omega) (by omega) (by simp; omega) ?_; intro A3 c3 w3 hown3 hb3 hst3; have hb3' := ((hbr.alloc hsr _).alloc (by simp; omega) _).trans hb3; have hs3 := hb3'.size; have hr0 := rec_stays hst3 hblk.out 0 _ rfl; have hrec := (hst3 wr.heap.size (by simp; omega) (fun a ha => by have := (hblk.out a ha).2; omega)).trans (rec_block wr _ 36 _); have HREC := Lib.hid hrec; clear hrec; clear tok; have hr1 := rec_stays hst3 hblk.out 2 _ rfl)
          have hfar := Lib.hid (fun a ha => rec_far hown3 HREC.out a ha)
          have hlt3 := rec_lt HREC.out
          go_region_law (first
            | (refine step_append_byt_k bty _ rfl (.tmp 62) (.tmp 67) rfl rfl rfl (hown3.alloc _).drew (Byt.one' w3 5 (UInt8.ofNat tx.length) _ HN8.out _ (Nat.lt_succ_self _)).drew (by omega) (by omega) (by simp; omega) ?_; intro A4 c4 w4 hown4 hb4 hst4; have hr4 : w4.cell? ⟨wr.heap.size, 2, none⟩ = some (.string (strOf tx)) := (hst4.cell (by simp; omega) hfar.out ((World.cell?_alloc_lt w3 _ ⟨wr.heap.size, 2, none⟩ hlt3).trans hr1)); have hs4 := hb4.size)
            | (refine step_append_txt bty Try.underlying9 _ rfl (.tmp 68) (.tmp 70) rfl rfl rfl hown4 (by omega) (by simp at hs4; omega) ?_; intro A5 c5 w5 hown5 hb5))
          all_goals
            go_wp2_with fail
            go_roundw
            case rel => exact ⟨k + 1, by omega, by go_num, A5, _, c5, rfl, by rw [HK.out]; rw [List.append_assoc, List.append_assoc] at hown5; exact hown5, by omega, (((hb3'.alloc hs3 _).drew).trans hb4).trans hb5⟩
            case measure => simp [intOf]; omega
      · obtain rfl : k = n := by omega
        have HA := Lib.hid (rowTo_all vs k (by have := HL.out; omega))
        go_wp2_with fail
        go_ret2
        exact .inr ⟨H0.out, A2, N, c2, rfl, by rw [← HA.out]; exact hown, by omega, hbr⟩
  · have hne : ((rightF vs 8 : Nat) : Int) ≠ 0 := by omega
    have hne2 : (((rightF vs 8 : Nat) : Int) != 0) = true := by rw [bne_iff_ne]; exact hne
    have hz : rightF vs 8 ≠ 0 := by omega
    have HZ := Lib.hid hz
    clear hne hz hbad
    generalize hR : rightF vs 8 = R at *
    have HR := Lib.hid hR
    clear hR
    go_wp2_with fail
    go_ret2
    exact .inl ⟨by rw [HR.out]; exact HZ.out, by rw [HR.out]; rfl, hb1⟩
end
end Go.Proofs.Ytjmpolabpgmjpaa
