/-
  The walk of the document's Key.
-/
import Derived.Test.YtjmpolabpgmjpaaRow
namespace Go.Proofs.Ytjmpolabpgmjpaa
open Go.RowKit

def keyX (n : Int) : BitVec 64 := BitVec.ofInt 64 n ^^^ 9223372036854775808#64
theorem key_int' (n : Int) : bits .xor .u64 (IntKind.u64.wrap n) 9223372036854775808 = n64 (keyX n) := key_int n
attribute [local go_sem] key_int'

set_option maxHeartbeats 1600000 in
theorem rkey_any (A : Option Addr) (n c : Nat) (vs : List Val) (B : Nat) (w : World) (hn : n ≤ 9223372036854775807) (hr : Vals w B A n vs) (hB : B ≤ w.heap.size) :
    Calls Try.prog 16 #[.slice A n c] w (KeyPost vs w) := by
  have HL := Lib.hid hr.len
  go_enter Try.func16, Try.ntmps16
  go_wp2_with fail
  refine (values_any A n c vs 3 3 rfl B w hn hr hB).mono ?_
  rintro e w1 ⟨rfl, hb1⟩
  have hs1 := hb1.size
  rcases rightF_cases vs 3 with ⟨h0, hlen, hall⟩ | hbad
  · rw [h0]
    have H0 := Lib.hid h0
    have HALL := Lib.hid hall
    have hn3 : n ≤ 3 := by have := HL.out; omega
    clear h0 hlen hall hn
    go_wp2_with fail
    go_loopw [5, 6] (fun v iv wr => ∃ k : Nat, k ≤ n ∧ iv = .int .i64 k ∧ ∃ A N c, v = .slice A N c ∧ Own wr w.heap.size 5 A N c (keyTo vs k) ∧ N ≤ 51 * k ∧ Below w.heap.size w wr) (fun _ iv _ => n - (intOf iv).toNat)
    case atStart => exact ⟨0, Nat.zero_le _, rfl, none, 0, 0, rfl, Own.nil_ _ _ _, by omega, hb1⟩
    case round =>
      obtain ⟨k, hk, rfl, A2, N, c2, rfl, hown, hN, hbr⟩ := hrel
      have hsr := hbr.size
      by_cases hlt : k < n
      · obtain ⟨b, off, v, rfl, hb, hv, hf, hc0, hc1, hc2⟩ := (hr.below (hbr.mono hB)).at_ hlt
        have p1 : (k : Int) < (n : Int) := by omega
        have HK := Lib.hid (keyTo_succ vs k v hv)
        have hblk := Lib.hid hown.blk
        rcases isV_cases v (HALL.out v (List.mem_of_getElem? hv)) with rfl | (rfl | rfl) | hi | ⟨ht, ht1, ht2⟩
        · clear hv hf
          have tok : True := trivial
          go_wp2_with (at_builtin; have _t := tok; refine wpList_append_byt_k bty _ rfl (.tmp 25) (.tmp 29) rfl rfl rfl ((hown.alloc _).alloc _) (Byt.one2 wr _ 5 0 _ rfl) (by omega) (by omega) (by simp; omega) ?_; intro A3 c3 w3 hown3 hb3 hst3; have hb3' := ((hbr.alloc hsr _).alloc (by simp; omega) _).trans hb3; have hs3 := hb3'.size; have hr0 := rec_stays hst3 hblk.out 0 _ rfl; clear tok)
          go_roundw
          case rel => exact ⟨k + 1, by omega, by go_num, A3, _, c3, rfl, by rw [HK.out]; exact hown3, by omega, hb3'⟩
          case measure => simp [intOf]; omega
        · clear hv hf
          have tok : True := trivial
          go_wp2_with (first | (at_builtin; have _t := tok; refine wpList_append_byt_k bty _ rfl (.tmp 25) (.tmp 29) rfl rfl rfl ((hown.alloc _).alloc _) (Byt.one2 wr _ 5 1 _ rfl) (by omega) (by omega) (by simp; omega) ?_; intro A3 c3 w3 hown3 hb3 hst3; have hb3' := ((hbr.alloc hsr _).alloc (by simp; omega) _).trans hb3; have hs3 := hb3'.size; have hr0 := rec_stays hst3 hblk.out 0 _ rfl; clear tok; have hr1 := rec_stays hst3 hblk.out 1 _ rfl) | (at_builtin; refine wpList_append_byt bty _ rfl (.tmp 35) (.tmp 39) rfl rfl rfl (hown3.alloc _) (Byt.one' w3 5 0 _ rfl _ (Nat.lt_succ_self _)) (by omega) (by simp; omega) ?_; intro A4 c4 w4 hown4 hb4))
          go_roundw
          case rel => exact ⟨k + 1, by omega, by go_num, A4, _, c4, rfl, by rw [HK.out]; rw [List.append_assoc] at hown4; exact hown4, by omega, (hb3'.alloc hs3 _).trans hb4⟩
          case measure => simp [intOf]; omega
        · clear hv hf
          have tok : True := trivial
          go_wp2_with (first | (at_builtin; have _t := tok; refine wpList_append_byt_k bty _ rfl (.tmp 25) (.tmp 29) rfl rfl rfl ((hown.alloc _).alloc _) (Byt.one2 wr _ 5 1 _ rfl) (by omega) (by omega) (by simp; omega) ?_; intro A3 c3 w3 hown3 hb3 hst3; have hb3' := ((hbr.alloc hsr _).alloc (by simp; omega) _).trans hb3; have hs3 := hb3'.size; have hr0 := rec_stays hst3 hblk.out 0 _ rfl; clear tok; have hr1 := rec_stays hst3 hblk.out 1 _ rfl) | (at_builtin; refine wpList_append_byt bty _ rfl (.tmp 35) (.tmp 39) rfl rfl rfl (hown3.alloc _) (Byt.one' w3 5 1 _ rfl _ (Nat.lt_succ_self _)) (by omega) (by simp; omega) ?_; intro A4 c4 w4 hown4 hb4))
          go_roundw
          case rel => exact ⟨k + 1, by omega, by go_num, A4, _, c4, rfl, by rw [HK.out]; rw [List.append_assoc] at hown4; exact hown4, by omega, (hb3'.alloc hs3 _).trans hb4⟩
          case measure => simp [intOf]; omega
        · obtain ⟨kd, num, tx⟩ := v
          simp only [Val.mk.injEq, true_and] at hi
          obtain ⟨rfl, rfl⟩ := hi
          clear hv hf
          have tok : True := trivial
          have HKI := Lib.hid (key_int num)
          go_wp2_with (at_builtin; have _t := tok; refine wpList_append_byt_k bty _ rfl (.tmp 25) (.tmp 29) rfl rfl rfl ((hown.alloc _).alloc _) (Byt.one2 wr _ 5 2 _ rfl) (by omega) (by omega) (by simp; omega) ?_; intro A3 c3 w3 hown3 hb3 hst3; have hb3' := ((hbr.alloc hsr _).alloc (by simp; omega) _).trans hb3; have hs3 := hb3'.size; have hr0 := rec_stays hst3 hblk.out 0 _ rfl; clear tok; have hr1 := rec_stays hst3 hblk.out 1 _ rfl)
          go_loopw [5, 9] (fun v i wi => ∃ r : Nat, r ≤ 8 ∧ i = .int .i64 (7 - (r : Int)) ∧ ∃ A' c', v = .slice A' (N + 1 + r) c' ∧ Own wi w.heap.size 5 A' (N + 1 + r) c' ((keyTo vs k ++ [2]) ++ beTo (keyX num) 8 r) ∧ Below w.heap.size w wi) (fun _ i _ => (intOf i + 1).toNat)
          case atStart => exact ⟨0, by omega, rfl, A3, c3, rfl, by simpa [beTo] using hown3, hb3'⟩
          case round =>
            obtain ⟨r, hr, rfl, A4, c4, rfl, hown4, hb4⟩ := hrel
            by_cases hlt8 : r < 8
            · obtain ⟨q, hq⟩ : ∃ q : Nat, q = 8 - 1 - r := ⟨_, rfl⟩
              have e1 : 7 - (r : Int) = (q : Int) := by omega
              have hby := n8_by64 (keyX num) q
              have HL2 : Hid (beTo (keyX num) 8 (r + 1) = beTo (keyX num) 8 r ++ [by64 (keyX num) q]) := by rw [hq]; exact beTo_succ (keyX num) 8 r
              have hq8 : q < 8 := by omega
              have e2 : (q : Int) - 1 = 7 - ((r + 1 : Nat) : Int) := by omega
              have E2 := Lib.hid e2
              rw [e1]
              have hsz := hb4.size
              generalize by64 (keyX num) q = d at *
              clear e1 e2 hq
              go_wp2_with (at_builtin; refine wpList_append_byt bty _ rfl (.tmp 51) (.tmp 57) rfl rfl rfl (hown4.alloc _) (Byt.one wr 5 d (wr.heap.size + 1) (by omega)) (by omega) (by simp; omega) ?_; intro A5 c5 w5 hown5 hb5)
              go_roundw
              case rel => exact ⟨r + 1, by omega, congrArg _ E2.out, A5, c5, rfl, by rw [HL2.out, ← List.append_assoc]; exact hown5, (hb4.alloc (by omega) _).trans hb5⟩
              case measure => simp [intOf]
            · obtain rfl : r = 8 := by omega
              go_wp2_with fail
              go_roundw
              case rel => exact ⟨k + 1, by omega, by go_num, A4, _, c4, rfl, by rw [HK.out]; rw [List.append_assoc] at hown4; exact hown4, by omega, hb4⟩
              case measure => simp [intOf]; omega
        · obtain ⟨kd, num, tx⟩ := v
          simp only [Val.mk.injEq, and_true] at ht
          obtain ⟨rfl, rfl⟩ := ht
          clear hv hf
          have tok : True := trivial
          have hlt1 : tx.length ≤ 40 := ht1
          clear ht1 ht2
          go_wp2_with (first | (at_builtin; have _t := tok; refine wpList_append_byt_k bty _ rfl (.tmp 25) (.tmp 29) rfl rfl rfl ((hown.alloc _).alloc _) (Byt.one2 wr _ 5 3 _ rfl) (by omega) (by omega) (by simp; omega) ?_; intro A3 c3 w3 hown3 hb3 hst3; have hb3' := ((hbr.alloc hsr _).alloc (by simp; omega) _).trans hb3; have hs3 := hb3'.size; have hr0 := rec_stays hst3 hblk.out 0 _ rfl; clear tok; have hr1 := rec_stays hst3 hblk.out 2 _ rfl) | (at_builtin; refine wpList_append_txt bty Try.underlying9 _ rfl (.tmp 61) (.tmp 63) rfl rfl rfl hown3 (by omega) (by omega) ?_; intro A4 c4 w4 hown4 hb4; have hs4 := hb4.size) | (at_builtin; refine wpList_append_byt bty _ rfl (.tmp 64) (.tmp 65) rfl rfl rfl (hown4.alloc _) (Byt.one' w4 5 0 _ rfl _ (Nat.lt_succ_self _)) (by omega) (by simp; omega) ?_; intro A5 c5 w5 hown5 hb5))
          go_roundw
          case rel => exact ⟨k + 1, by omega, by go_num, A5, _, c5, rfl, by rw [HK.out]; rw [List.append_assoc, List.append_assoc] at hown5; exact hown5, by omega, ((hb3'.trans hb4).alloc (Nat.le_trans hs3 hs4) _).trans hb5⟩
          case measure => simp [intOf]; omega
      · obtain rfl : k = n := by omega
        have HA := Lib.hid (keyTo_all vs k (by have := HL.out; omega))
        go_wp2_with fail
        go_ret2
        exact .inr ⟨H0.out, A2, N, c2, rfl, by rw [← HA.out]; exact hown, by omega, hbr⟩
  · have hne : ((rightF vs 3 : Nat) : Int) ≠ 0 := by omega
    have hne2 : (((rightF vs 3 : Nat) : Int) != 0) = true := by rw [bne_iff_ne]; exact hne
    have hz : rightF vs 3 ≠ 0 := by omega
    have HZ := Lib.hid hz
    clear hne hz hbad
    generalize hR : rightF vs 3 = R at *
    have HR := Lib.hid hR
    clear hR
    go_wp2_with fail
    go_ret2
    exact .inl ⟨by rw [HR.out]; exact HZ.out, by rw [HR.out]; rfl, hb1⟩
end Go.Proofs.Ytjmpolabpgmjpaa
