/-
  The walk of the document's Unrow.
-/
import Derived.Test.YtjmpolabpgmjpaaUnrow
import Derived.Test.YtjmpolabpgmjpaaFind
namespace Go.Proofs.Ytjmpolabpgmjpaa
open Go.RowKit

theorem rev8 (b : List UInt8) (q j : Nat) (hq : q + 8 ≤ b.length) (hj : j < 8) : (((b.drop q).take 8).reverse)[j]? = b[q + (7 - j)]? := by
  have hl : ((b.drop q).take 8).length = 8 := by rw [List.length_take, List.length_drop]; omega
  rw [List.getElem?_reverse (by rw [hl]; exact hj), hl, List.getElem?_take, if_pos (by omega), List.getElem?_drop]
/-- s[L:H], the address hidden. -/
theorem cut_mid {P : Program} {T E : TypeId} (hT : ByteTy P T E) (A : Option Addr) (m c L H : Nat) (hL : L ≤ H) (hH : H ≤ m) (hm : m ≤ c) :
    ∃ A2, (∀ (k k2 : IntKind) (W : World), (Instr.slice T (.slice A m c) (some (.int k (L : Int))) (some (.int k2 (H : Int))) none).run P W = .ok (.slice A2 (H - L) (c - L)) W) ∧
      ∀ (w : World) (B : Nat) (l : List UInt8), Byt w B A m l → Byt w B A2 (H - L) ((l.drop L).take (H - L)) := by
  obtain ⟨i, hi, hz, hs, hb⟩ := hT.info
  have helem : P.elem T = E := by
    have := hT.sl
    simp [Program.elem, this]
  have hsz : ∀ W : World, (sizeOf E).run P W = .ok 1 W := by
    intro W
    simp [sizeOf, typeInfo, hi, hs]
  refine ⟨if c - L = 0 then A else A.map (·.add (L * 1)), fun k k2 W => ?_, fun w B l h => ?_⟩
  · rw [run_slice_lh W T A m c (by rw [helem]; exact hT.sl) k k2 (L : Int) (H : Int) (by omega) (by omega) (by omega), helem, hsz]
    simp [Result.andThen, sliced]
    split <;> split <;> first | rfl | omega
  · have := h.mid (i := L) (j := H) (A' := if c - L = 0 then A else A.map (·.add (L * 1))) hL hH (by
      rintro hlt b off rfl
      rw [if_neg (by omega)]
      simp [add_plain])
    rwa [List.drop_take] at this
theorem row3no (c d : UInt8) (r : List UInt8) (h : c.toNat = 3) (hl : r.length < d.toNat) : rowStep (c :: d :: r) = none := by
  simp only [rowStep]
  rw [if_neg (by omega), if_neg (by omega), if_pos h, if_pos hl]
theorem row3yes (c d : UInt8) (r : List UInt8) (h : c.toNat = 3) (hl : ¬ r.length < d.toNat) : rowStep (c :: d :: r) = some (⟨3, 0, r.take d.toNat⟩, r.drop d.toNat) := by
  simp only [rowStep]
  rw [if_neg (by omega), if_neg (by omega), if_pos h, if_neg hl]
theorem arith1 (n q N : Nat) (h : q < n) (hz : ¬ n - q - 1 < N) : q + 1 + N ≤ n := by omega
theorem mul_add (y : Nat) (d : UInt8) (hy : y < 72057594037927936) : IntKind.u64.wrap (IntKind.u64.wrap (256 * (y : Int)) + IntKind.u64.wrap (n8 d)) = ((y * 256 + d.toNat : Nat) : Int) := by
  have hd : d.toNat < 256 := d.toNat_lt
  have e2 : IntKind.u64.wrap (n8 d) = (d.toNat : Int) := wrap_n8 d
  rw [e2, IntKind.wrap_u64, IntKind.wrap_u64]
  omega
theorem InvR.step' {b : List UInt8} {out : List Val} {n m : Nat} {rest rest' : List UInt8} {v : Val} (h : InvR b out n rest) (hn : n = m + 1) (hs : rowStep rest = some (v, rest')) : InvR b (out ++ [v]) m rest' := by
  subst hn
  exact h.step hs
theorem InvR.bad' {b : List UInt8} {out : List Val} {n : Nat} {rest : List UInt8} (h : InvR b out n rest) (hn : 0 < n) (hs : rowStep rest = none) : NoRow b := by
  obtain ⟨m, rfl⟩ : ∃ m, n = m + 1 := ⟨n - 1, by omega⟩
  exact h.bad hs

set_option maxRecDepth 20000 in
set_option maxHeartbeats 6400000 in
theorem runrow_any (A : Option Addr) (n c : Nat) (b : List UInt8) (B : Nat) (w : World) (hn : n ≤ 1099511627776) (hnc : n ≤ c) (hr : Byt w B A n b) (hB : B ≤ w.heap.size) :
    Calls Try.prog 24 #[.slice A n c] w (UnrowPost b w) := by
  have hl := hr.len
  go_enter Try.func24, Try.ntmps24
  by_cases h1 : n = 0
  · have hb : b = [] := List.eq_nil_of_length_eq_zero (by omega)
    have hno : NoRow b := by
      intro vs _ _ h
      rw [hb] at h
      cases h
    have HNO := Lib.hid hno
    clear hno hl hb hr
    subst h1
    go_wp2_with fail
    go_ret2
    exact .inr ⟨HNO.out, rfl, Below.refl _ _⟩
  obtain ⟨d, b', hbd⟩ : ∃ c0 b', b = c0 :: b' := by
    cases b with
    | nil => simp at hl; omega
    | cons c0 b' => exact ⟨c0, b', rfl⟩
  have hinv : Hid (InvR b [] d.toNat (b.drop 1)) := by rw [hbd]; exact InvR.start d b'
  obtain ⟨b0, o0, d0, rfl, hb0, hd0, _⟩ := hr.at_ (k := 0) (by omega)
  obtain rfl : d0 = d := by rw [hbd] at hd0; simpa using hd0.symm
  have HR0 := Lib.hid hr
  have HB := Lib.hid hl
  have hd256 : d0.toNat < 256 := d0.toNat_lt
  have hw0 := wrap64_byte d0
  have hn80 : n8 d0 = (d0.toNat : Int) := rfl
  have HD0 := Lib.hid hd0
  clear hbd hd0 hr hl
  have hz0 : ((n : Int) == 0) = false := by rw [beq_eq_false_iff_ne]; omega
  have hz2 : ¬ (n : Int) = 0 := by omega
  go_wp2_with fail
  go_loopw [4, 5, 6] (fun o a i wr => ∃ (k p : Nat) (out : List Val) (Ao : Option Addr) (mo co : Nat), i = .int .i64 (k : Int) ∧ a = .int .i64 (p : Int) ∧ o = .slice Ao mo co ∧ OwnV wr w.heap.size Ao mo co out ∧ p ≤ n ∧ k ≤ d0.toNat ∧ mo ≤ k ∧ Hid (InvR b out (d0.toNat - k) (b.drop p)) ∧ Below w.heap.size w wr) (fun _ _ i _ => d0.toNat - (intOf i).toNat)
  case atStart => exact ⟨0, 1, [], none, 0, 0, rfl, rfl, rfl, OwnV.nil_ _ _, by omega, by omega, by omega, hinv, Below.refl _ _⟩
  case round =>
    obtain ⟨k, p, out, Ao, mo, co, rfl, rfl, rfl, hown, hp, hk, hmo, hI, hbr⟩ := hrel
    have hsr := hbr.size
    have HRR := Lib.hid (HR0.out.below (hbr.mono hB))
    have HOL := Lib.hid hown.len
    have hat : ∀ i c1, b[i]? = some c1 → wr.cell? ⟨b0, o0 + i, none⟩ = some (.int .u8 (n8 c1)) := by
      intro i c1 hi
      obtain ⟨bb, oo, e, _, h⟩ := HRR.out.2 (by omega)
      injection e with e; injection e with e1 e2; subst e1 e2
      exact h i c1 hi
    have HAT := Lib.hid hat
    have hc0 : wr.cell? ⟨b0, o0, none⟩ = some (.int .u8 (n8 d0)) := by have := HAT.out 0 d0 HD0.out; simpa using this
    clear hat hinv
    by_cases hlt : k < d0.toNat
    · have p0 : (k : Int) < (d0.toNat : Int) := by omega
      by_cases hpn : n ≤ p
      · have q0 : (n : Int) ≤ (p : Int) := by omega
        have HNO := Lib.hid (InvR.bad' hI.out (by omega) (by rw [List.drop_of_length_le (by rw [HB.out]; exact hpn)]; rfl))
        clear hI
        go_wp2_with fail
        go_ret2
        exact .inr ⟨HNO.out, rfl, hbr⟩
      have hp1 : p < n := by omega
      have q0 : (p : Int) < (n : Int) := by omega
      obtain ⟨d3, hd3⟩ : ∃ d3, b[p]? = some d3 := ⟨b[p]'(by have := HB.out; omega), List.getElem?_eq_getElem _⟩
      have hcp := HAT.out p d3 hd3
      have hdrop : b.drop p = d3 :: b.drop (p + 1) := by
        have hlen : p < b.length := by have := HB.out; omega
        rw [List.drop_eq_getElem_cons hlen]
        congr 1
        rw [List.getElem?_eq_getElem hlen] at hd3
        injection hd3
      have hI2 : Hid (InvR b out (d0.toNat - k) (d3 :: b.drop (p + 1))) := by rw [← hdrop]; exact hI
      have HLR : Hid ((b.drop (p + 1)).length = n - (p + 1)) := by
        show (b.drop (p + 1)).length = n - (p + 1)
        rw [List.length_drop, HB.out]
      have hblk := Lib.hid hown.blk
      have hfar : Hid (∀ x, Ao = some x → x.block ≠ wr.heap.size) := fun x hx => by have := (hblk.out x hx).2; omega
      obtain ⟨q, hq⟩ : ∃ q, q = p + 1 := ⟨_, rfl⟩
      have e1 : (p : Int) + 1 = (q : Int) := by omega
      rw [← hq] at hI2 HLR
      have hqn : q ≤ n := by omega
      have HQ := Lib.hid hq
      clear hd3 hdrop hI hq
      by_cases hk1 : d3.toNat = 1
      · have hn8 : n8 d3 = 1 := by unfold n8; omega
        by_cases hz1 : n ≤ q
        · have HNO := Lib.hid (InvR.bad' hI2.out (by omega) (by rw [List.eq_nil_of_length_eq_zero (show (b.drop q).length = 0 by rw [HLR.out]; omega)]; simp only [rowStep]; rw [if_pos hk1]))
          have q1 : (n : Int) - (q : Int) < 1 := by omega
          clear hk1 hI2
          go_wp2_with fail
          go_ret2
          exact .inr ⟨HNO.out, rfl, hbr.alloc hsr _⟩
        obtain ⟨d5, hd5⟩ : ∃ d5, b[q]? = some d5 := ⟨b[q]'(by have := HB.out; omega), List.getElem?_eq_getElem _⟩
        have hdrop5 : b.drop q = d5 :: b.drop (q + 1) := by
          have hlen : q < b.length := by have := HB.out; omega
          rw [List.drop_eq_getElem_cons hlen]
          congr 1
          rw [List.getElem?_eq_getElem hlen] at hd5
          injection hd5
        have hcq : ∀ X, (wr.alloc X).cell? ⟨b0, o0 + q, none⟩ = some (.int .u8 (n8 d5)) := fun X => (World.cell?_alloc_lt wr X ⟨b0, o0 + q, none⟩ (by show b0 < wr.heap.size; omega)).trans (HAT.out q d5 hd5)
        obtain ⟨q2, hq2⟩ : ∃ q2, q2 = q + 1 := ⟨_, rfl⟩
        have e2 : (q : Int) + 1 = (q2 : Int) := by omega
        have HST := Lib.hid (show rowStep (d3 :: b.drop q) = some (⟨1, d5.toNat, []⟩, b.drop q2) by rw [hdrop5, hq2]; simp only [rowStep]; rw [if_pos hk1])
        have q1 : ¬ (n : Int) - (q : Int) < 1 := by omega
        have q3 : (q : Int) < (n : Int) := by omega
        have hq2n : q2 ≤ n := by omega
        clear hk1 hd5 hdrop5 hq2
        go_wp2_with (at_builtin; refine wpList_append_val _ rfl (.tmp 106) (.tmp 108) rfl ⟨1, d5.toNat, []⟩ _ _ _ rfl (wrap64_byte d5) rfl _ (by simp) rfl rfl (by first | exact (hown.alloc _).setCell hfar.out _ | exact hown.alloc _) (by omega) (by simp; omega) ?_; intro A6 c6 w6 hown6' hb6'; have hown6 := Lib.hid hown6'; have hb6 := Lib.hid hb6'; clear hown6' hb6')
        go_roundw
        case rel => exact ⟨k + 1, q2, out ++ [⟨1, d5.toNat, []⟩], A6, mo + 1, c6, by go_num, rfl, rfl, hown6.out, by omega, by omega, by omega, Lib.hid (InvR.step' hI2.out (by omega) HST.out), Below.trans (by first | exact ((hbr.alloc hsr _).setCell hsr _) | exact (hbr.alloc hsr _)) hb6.out⟩
        case measure => simp [intOf]; omega
      by_cases hk2 : d3.toNat = 2
      · have hn8 : n8 d3 = 2 := by unfold n8; omega
        by_cases hz1 : n - q < 8
        · have HNO := Lib.hid (InvR.bad' hI2.out (by omega) (by simp only [rowStep]; rw [if_neg hk1, if_pos hk2, if_pos (by rw [HLR.out]; exact hz1)]))
          have q1 : (n : Int) - (q : Int) < 8 := by omega
          clear hk1 hk2 hI2
          go_wp2_with fail
          go_ret2
          exact .inr ⟨HNO.out, rfl, hbr.alloc hsr _⟩
        have q1 : ¬ (n : Int) - (q : Int) < 8 := by omega
        obtain ⟨q2, hq2⟩ : ∃ q2, q2 = q + 8 := ⟨_, rfl⟩
        have e2 : (q : Int) + 8 = (q2 : Int) := by omega
        have hq2n : q2 ≤ n := by omega
        have HST := Lib.hid (show rowStep (d3 :: b.drop q) = some (⟨2, (deN ((b.drop q).take 8)).toInt, []⟩, b.drop q2) by rw [hq2]; simp only [rowStep]; rw [if_neg hk1, if_pos hk2, if_neg (by rw [HLR.out]; exact hz1), List.drop_drop])
        have HREV : Hid (∀ j, j < 8 → (((b.drop q).take 8).reverse)[j]? = b[q + (7 - j)]?) := fun j hj => rev8 b q j (by rw [HB.out]; omega) hj
        have HL8 : Hid (((b.drop q).take 8).length = 8) := by
          show ((b.drop q).take 8).length = 8
          rw [List.length_take, HLR.out]; omega
        have HDN := Lib.hid (bev_deN ((b.drop q).take 8) (by rw [HL8.out]; omega))
        clear hk1 hk2 hq2
        generalize (b.drop q).take 8 = l8 at *
        go_wp2_with fail
        go_loop [9, 10] (fun u i => ∃ j : Nat, j ≤ 8 ∧ i = .int .i64 (7 - (j : Int)) ∧ u = .int .u64 (bev (l8.reverse.take j) : Int)) (fun _ i => (intOf i + 1).toNat)
        case atStart => exact ⟨0, by omega, rfl, rfl⟩
        case round =>
          obtain ⟨j, hj, rfl, rfl⟩ := hrel
          by_cases hj8 : j < 8
          · obtain ⟨kk, hkk⟩ : ∃ kk : Nat, kk = 7 - j := ⟨_, rfl⟩
            obtain ⟨dj, hdj⟩ : ∃ dj, b[q + kk]? = some dj := ⟨b[q + kk]'(by have := HB.out; omega), List.getElem?_eq_getElem _⟩
            have HS := Lib.hid (unbig_step j l8.reverse dj (by omega) (by rw [HREV.out j hj8, ← hkk]; exact hdj))
            have e3 : 7 - (j : Int) = (kk : Int) := by omega
            have e4 : (kk : Int) - 1 = 7 - ((j + 1 : Nat) : Int) := by omega
            have E4 := Lib.hid e4
            have hcj : ∀ X, (wr.alloc X).cell? ⟨b0, o0 + (q + kk), none⟩ = some (.int .u8 (n8 dj)) := fun X => (World.cell?_alloc_lt wr X ⟨b0, o0 + (q + kk), none⟩ (by show b0 < wr.heap.size; omega)).trans (HAT.out (q + kk) dj hdj)
            have r1 : (q : Int) + (kk : Int) < (n : Int) := by omega
            have r2 : (0 : Int) ≤ (kk : Int) := by omega
            have hkk8 : kk < 8 := by omega
            rw [e3]
            clear hdj e3 e4 hkk
            generalize hy : bev (l8.reverse.take j) = y at *
            go_wp2_with fail
            go_round
            case rel =>
              exact ⟨j + 1, by omega, congrArg _ E4.out, by rw [HS.out.1, mul_add y dj HS.out.2]⟩
            case measure => simp [intOf]
          · obtain rfl : j = 8 := by omega
            have HM : Hid (wrap64 ((bev (l8.reverse.take 8) : Nat) : Int) = (deN l8).toInt) := by
              show wrap64 ((bev (l8.reverse.take 8) : Nat) : Int) = (deN l8).toInt
              rw [List.take_of_length_le (by rw [List.length_reverse, HL8.out]; exact Nat.le_refl _), ← HDN.out]
              exact wrap64_n64 (deN l8)
            clear HREV HDN
            generalize bev (l8.reverse.take 8) = y at *
            generalize deN l8 = x64 at *
            go_wp2_with (at_builtin; refine wpList_append_val _ rfl (.tmp 106) (.tmp 108) rfl ⟨2, x64.toInt, []⟩ _ _ _ rfl HM.out rfl _ (by simp) rfl rfl (by first | exact (hown.alloc _).setCell hfar.out _ | exact hown.alloc _) (by omega) (by simp; omega) ?_; intro A6 c6 w6 hown6' hb6'; have hown6 := Lib.hid hown6'; have hb6 := Lib.hid hb6'; clear hown6' hb6')
            go_roundw
            case rel => exact ⟨k + 1, q2, out ++ [⟨2, x64.toInt, []⟩], A6, mo + 1, c6, by go_num, rfl, rfl, hown6.out, by omega, by omega, by omega, Lib.hid (InvR.step' hI2.out (by omega) HST.out), Below.trans (by first | exact ((hbr.alloc hsr _).setCell hsr _) | exact (hbr.alloc hsr _)) hb6.out⟩
            case measure => simp [intOf]; omega
      by_cases hk3 : d3.toNat = 3
      · have hn8 : n8 d3 = 3 := by unfold n8; omega
        by_cases hz1 : n ≤ q
        · have HNO := Lib.hid (InvR.bad' hI2.out (by omega) (by rw [List.eq_nil_of_length_eq_zero (show (b.drop q).length = 0 by rw [HLR.out]; omega)]; simp only [rowStep]; rw [if_neg hk1, if_neg hk2, if_pos hk3]))
          have q1 : (n : Int) - (q : Int) < 1 := by omega
          clear hk1 hk2 hk3 hI2
          go_wp2_with fail
          go_ret2
          exact .inr ⟨HNO.out, rfl, hbr.alloc hsr _⟩
        obtain ⟨d5, hd5⟩ : ∃ d5, b[q]? = some d5 := ⟨b[q]'(by have := HB.out; omega), List.getElem?_eq_getElem _⟩
        have hdrop5 : b.drop q = d5 :: b.drop (q + 1) := by
          have hlen : q < b.length := by have := HB.out; omega
          rw [List.drop_eq_getElem_cons hlen]
          congr 1
          rw [List.getElem?_eq_getElem hlen] at hd5
          injection hd5
        have hcq : ∀ X, (wr.alloc X).cell? ⟨b0, o0 + q, none⟩ = some (.int .u8 (n8 d5)) := fun X => (World.cell?_alloc_lt wr X ⟨b0, o0 + q, none⟩ (by show b0 < wr.heap.size; omega)).trans (HAT.out q d5 hd5)
        obtain ⟨N, hN⟩ : ∃ N, N = d5.toNat := ⟨_, rfl⟩
        have hw5 : wrap64 (n8 d5) = (N : Int) := by rw [hN]; exact wrap64_byte d5
        obtain ⟨q2, hq2⟩ : ∃ q2, q2 = q + 1 := ⟨_, rfl⟩
        have e2 : (q : Int) + 1 = (q2 : Int) := by omega
        obtain ⟨r, hrr⟩ : ∃ r, r = n - q := ⟨_, rfl⟩
        obtain ⟨r', hrr'⟩ : ∃ r', r' = n - q - 1 := ⟨_, rfl⟩
        have er : (n : Int) - (q : Int) = (r : Int) := by omega
        have er' : (r : Int) - 1 = (r' : Int) := by omega
        have q1 : ¬ (r : Int) < 1 := by omega
        have q3' : (q : Int) < (n : Int) := by omega
        have HRR2 := Lib.hid hrr
        have HRR3 := Lib.hid hrr'
        by_cases hz2 : n - q - 1 < N
        · have hlt5 : (b.drop (q + 1)).length < d5.toNat := by rw [List.length_drop, HB.out, ← hN, ← Nat.sub_sub]; exact hz2
          have hstep := row3no d3 d5 (b.drop (q + 1)) hk3 hlt5
          rw [← hdrop5] at hstep
          have HNO := Lib.hid (InvR.bad' hI2.out (by omega) hstep)
          clear hlt5 hstep
          have q4 : (r' : Int) < (N : Int) := by rw [← hrr'] at hz2; exact Int.ofNat_lt.2 hz2
          clear hk1 hk2 hk3 hI2 hd5 hdrop5 hq2 hN hrr hrr' hz2
          go_wp2_with fail
          go_ret2
          exact .inr ⟨HNO.out, rfl, hbr.alloc hsr _⟩
        have q4 : ¬ (r' : Int) < (N : Int) := fun h => hz2 (by rw [← hrr']; exact Int.ofNat_lt.1 h)
        have har := arith1 n q N (by omega) hz2
        clear hrr hrr'
        obtain ⟨q3, hq3⟩ : ∃ q3, q3 = q2 + N := ⟨_, rfl⟩
        have e3 : (q2 : Int) + (N : Int) = (q3 : Int) := by rw [hq3]; rfl
        have e5 : (q : Int) + (1 + (N : Int)) = (q3 : Int) := by rw [← e3, ← e2, Int.add_assoc]
        have hq3n : q3 ≤ n := by rw [hq3, hq2]; exact har
        have hq23 : q2 ≤ q3 := by rw [hq3]; exact Nat.le_add_right _ _
        have hqN : N = q3 - q2 := by rw [hq3]; exact (Nat.add_sub_cancel_left _ _).symm
        have hst := row3yes d3 d5 (b.drop (q + 1)) hk3 (by rw [List.length_drop, HB.out, ← hN, ← Nat.sub_sub]; exact hz2)
        rw [← hdrop5, ← hN, ← hq2, List.drop_drop, ← hq3, hqN] at hst
        have HST := Lib.hid hst
        clear hst
        obtain ⟨AT, hslT, hbT⟩ := cut_mid bty (some ⟨b0, o0, none⟩) n c q2 q3 hq23 hq3n hnc
        have hyT := hbT _ _ _ HRR.out
        have hs1 := fun X => run_str_byt (S := 9) Try.underlying25 Try.underlying5 Try.underlying9 _ (hyT.alloc (by omega) X) (c - q2)
        clear hk1 hk2 hk3 hd5 hdrop5 hq2 hq3 hN hbT hz2 har hqN
        generalize (b.drop q2).take (q3 - q2) = tx at *
        go_wp2_with (at_builtin; refine wpList_append_val _ rfl (.tmp 106) (.tmp 108) rfl ⟨3, 0, tx⟩ _ _ _ rfl rfl rfl _ (by simp) rfl rfl (by first | exact (hown.alloc _).setCell hfar.out _ | exact hown.alloc _) (by omega) (by simp; omega) ?_; intro A6 c6 w6 hown6' hb6'; have hown6 := Lib.hid hown6'; have hb6 := Lib.hid hb6'; clear hown6' hb6')
        go_roundw
        case rel => exact ⟨k + 1, q3, out ++ [⟨3, 0, tx⟩], A6, mo + 1, c6, by go_num, rfl, rfl, hown6.out, by omega, by omega, by omega, Lib.hid (InvR.step' hI2.out (by omega) HST.out), Below.trans (by first | exact ((hbr.alloc hsr _).setCell hsr _) | exact (hbr.alloc hsr _)) hb6.out⟩
        case measure => simp [intOf]; omega
      · have hh1 : ¬ n8 d3 = 1 := by unfold n8; omega
        have hh2 : ¬ n8 d3 = 2 := by unfold n8; omega
        have hh3 : ¬ n8 d3 = 3 := by unfold n8; omega
        have HST := Lib.hid (show rowStep (d3 :: b.drop q) = some (⟨d3.toNat, 0, []⟩, b.drop q) by simp only [rowStep]; rw [if_neg hk1, if_neg hk2, if_neg hk3])
        have hkk := wrap64_byte d3
        have hw := wrap64_n8 d3
        have q1 : ¬ (n : Int) - (q : Int) < 0 := by omega
        have e2 : (q : Int) + 0 = (q : Int) := by omega
        clear hk1 hk2 hk3
        go_wp2_with (at_builtin; refine wpList_append_val _ rfl (.tmp 106) (.tmp 108) rfl ⟨d3.toNat, 0, []⟩ _ _ _ (by first | rfl | exact hkk) rfl rfl _ (by simp) rfl rfl (hown.alloc _) (by omega) (by simp; omega) ?_; intro A6 c6 w6 hown6' hb6'; have hown6 := Lib.hid hown6'; have hb6 := Lib.hid hb6'; clear hown6' hb6')
        go_roundw
        case rel => exact ⟨k + 1, q, out ++ [⟨d3.toNat, 0, []⟩], A6, mo + 1, c6, by go_num, rfl, rfl, hown6.out, by omega, by omega, by omega, Lib.hid (InvR.step' hI2.out (by omega) HST.out), Below.trans (hbr.alloc hsr _) hb6.out⟩
        case measure => simp [intOf]; omega
    · obtain rfl : k = d0.toNat := by omega
      have hI0 : Hid (InvR b out 0 (b.drop p)) := by have := hI; rwa [Nat.sub_self] at this
      clear hI hlt
      by_cases hpn : p = n
      · subst hpn
        have hnil : b.drop p = [] := List.drop_of_length_le (by rw [HB.out]; exact Nat.le_refl _)
        rw [hnil] at hI0
        have hvals := hown.vals (hI0.out).1
        clear hnil
        go_wp2_with fail
        refine (values_any Ao mo co out 8 8 rfl _ wr (by omega) hvals (Nat.le_refl _)).mono ?_
        rintro e w4 ⟨rfl, hb4⟩
        have hb4' := hbr.trans (hb4.mono hsr)
        by_cases hR : rightF out 8 = 0
        · have HG := Lib.hid (InvR.good hI0.out hR)
          have HW := Lib.hid (InvR.whole hI0.out hR)
          rw [hR]
          clear hR
          go_wp2_with fail
          go_ret2
          exact .inl ⟨out, Ao, mo, co, HG.out.1, HG.out.2, HW.out, rfl, hown.below hb4, hb4'⟩
        · have HNO := Lib.hid (InvR.wrong hI0.out hR)
          have hne : ¬ ((rightF out 8 : Nat) : Int) = 0 := by omega
          clear hR hI0
          generalize rightF out 8 = R at *
          go_wp2_with fail
          go_ret2
          exact .inr ⟨HNO.out, rfl, hb4'⟩
      · have HNO := Lib.hid (InvR.long hI0.out (fun h => by have := congrArg List.length h; rw [List.length_drop, HB.out, List.length_nil] at this; omega))
        have q0 : ¬ (p : Int) = (n : Int) := by omega
        clear hI0
        go_wp2_with fail
        go_ret2
        exact .inr ⟨HNO.out, rfl, hbr⟩
end Go.Proofs.Ytjmpolabpgmjpaa
