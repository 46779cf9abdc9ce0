/-
  The walk of the document's Unkey.
-/
import Derived.Test.YtjmpolabpgmjpaaUnkey
import Derived.Test.YtjmpolabpgmjpaaRUnrow
namespace Go.Proofs.Ytjmpolabpgmjpaa
open Go.RowKit

theorem InvK.bad' {b : List UInt8} {out : List Val} {c : UInt8} {r : List UInt8} (h : InvK b out (c :: r)) (hs : keyStep (c :: r) = none) : NoKey b := h.bad (by simp) hs
theorem key1no (c : UInt8) (h : c.toNat = 1) : keyStep [c] = none := by
  simp only [keyStep]
  rw [if_pos h]
theorem key1yes (c d : UInt8) (r : List UInt8) (h : c.toNat = 1) : keyStep (c :: d :: r) = some (⟨1, d.toNat, []⟩, r) := by
  simp only [keyStep]
  rw [if_pos h]
theorem key2no (c : UInt8) (r : List UInt8) (h : c.toNat = 2) (hl : r.length < 8) : keyStep (c :: r) = none := by
  simp only [keyStep]
  rw [if_neg (by omega), if_pos h, if_pos hl]
theorem key2yes (c : UInt8) (r : List UInt8) (h : c.toNat = 2) (hl : ¬ r.length < 8) : keyStep (c :: r) = some (⟨2, (signX (deB (r.take 8))).toInt, []⟩, r.drop 8) := by
  simp only [keyStep]
  rw [if_neg (by omega), if_pos h, if_neg hl]
  rfl
theorem key3no (c : UInt8) (r : List UInt8) (h : c.toNat = 3) (hl : ¬ (0 : UInt8) ∈ r) : keyStep (c :: r) = none := by
  simp only [keyStep]
  rw [if_neg (by omega), if_neg (by omega), if_pos h, if_neg hl]
theorem key3yes (c : UInt8) (r : List UInt8) (K : Nat) (h : c.toNat = 3) (hlt : ∀ i, i < K → ¬ r[i]? = some 0) (h0 : r[K]? = some 0) : keyStep (c :: r) = some (⟨3, 0, r.take K⟩, r.drop (K + 1)) := by
  have hK : K < r.length := by
    rcases Nat.lt_or_ge K r.length with hh | hh
    · exact hh
    · rw [List.getElem?_eq_none hh] at h0; cases h0
  have hr : r = r.take K ++ 0 :: r.drop (K + 1) := by
    conv => lhs; rw [← List.take_append_drop K r, List.drop_eq_getElem_cons hK]
    rw [List.getElem?_eq_getElem hK] at h0
    injection h0 with h0
    rw [h0]
  have hn : ¬ (0 : UInt8) ∈ r.take K := by
    intro hm
    obtain ⟨i, hi, he⟩ := List.mem_iff_getElem.1 hm
    have hiK : i < K := by rw [List.length_take] at hi; omega
    refine hlt i hiK ?_
    have := List.getElem?_eq_getElem hi
    rw [he, List.getElem?_take, if_pos hiK] at this
    exact this
  have hm : (0 : UInt8) ∈ r := by rw [hr]; simp
  have htw : r.takeWhile (fun y => y != 0) = r.take K := by
    conv => lhs; rw [hr]
    exact takeWhile_pre _ _ hn
  simp only [keyStep]
  rw [if_neg (by omega), if_neg (by omega), if_pos h, if_pos hm, htw, List.length_take, Nat.min_eq_left (by omega)]
theorem key0 (c : UInt8) (r : List UInt8) (h1 : ¬ c.toNat = 1) (h2 : ¬ c.toNat = 2) (h3 : ¬ c.toNat = 3) : keyStep (c :: r) = some (⟨c.toNat, 0, []⟩, r) := by
  simp only [keyStep]
  rw [if_neg h1, if_neg h2, if_neg h3]

set_option maxRecDepth 20000 in
set_option maxHeartbeats 6400000 in
theorem runkey_any (A : Option Addr) (n c : Nat) (b : List UInt8) (B : Nat) (w : World) (hn : n ≤ 1000) (hnc : n ≤ c) (hr : Byt w B A n b) (hB : B ≤ w.heap.size) :
    Calls Try.prog 25 #[.slice A n c] w (UnkeyPost b w) := by
  have hinv : Hid (InvK b [] (b.drop 0)) := InvK.start b
  have HR0 := Lib.hid hr
  have HB := Lib.hid hr.len
  go_enter Try.func25, Try.ntmps25
  clear hr
  go_wp2_with fail
  go_loopw [4, 5] (fun o a wr => ∃ (p : Nat) (out : List Val) (Ao : Option Addr) (mo co : Nat), a = .int .i64 (p : Int) ∧ o = .slice Ao mo co ∧ OwnV wr w.heap.size Ao mo co out ∧ p ≤ n ∧ mo ≤ p ∧ Hid (InvK b out (b.drop p)) ∧ Below w.heap.size w wr) (fun _ a _ => n - (intOf a).toNat)
  case atStart => exact ⟨0, [], none, 0, 0, rfl, rfl, OwnV.nil_ _ _, by omega, by omega, hinv, Below.refl _ _⟩
  case round =>
    obtain ⟨p, out, Ao, mo, co, rfl, rfl, hown, hp, hmo, hI, hbr⟩ := hrel
    have hsr := hbr.size
    have HRR := Lib.hid (HR0.out.below (hbr.mono hB))
    have HOL := Lib.hid hown.len
    clear hinv
    by_cases hp1 : p < n
    · obtain ⟨b0, o0, d3, rfl, hb0, hd3, hcp⟩ := HRR.out.at_ hp1
      have HAT : Hid (∀ i c1, b[i]? = some c1 → wr.cell? ⟨b0, o0 + i, none⟩ = some (.int .u8 (n8 c1))) := by
        intro i c1 hi
        obtain ⟨bb, oo, e, _, h⟩ := HRR.out.2 (by omega)
        injection e with e; injection e with e1 e2; subst e1 e2
        exact h i c1 hi
      have q0 : (p : Int) < (n : Int) := by omega
      have hdrop : b.drop p = d3 :: b.drop (p + 1) := by
        have hlen : p < b.length := by have := HB.out; omega
        rw [List.drop_eq_getElem_cons hlen]
        congr 1
        rw [List.getElem?_eq_getElem hlen] at hd3
        injection hd3
      have hI2 : Hid (InvK b out (d3 :: b.drop (p + 1))) := by rw [← hdrop]; exact hI
      have HLR : Hid ((b.drop (p + 1)).length = n - (p + 1)) := by
        show (b.drop (p + 1)).length = n - (p + 1)
        rw [List.length_drop, HB.out]
      have hblk := Lib.hid hown.blk
      have hfar : Hid (∀ x, Ao = some x → x.block ≠ wr.heap.size) := fun x hx => by have := (hblk.out x hx).2; omega
      obtain ⟨q, hq⟩ : ∃ q, q = p + 1 := ⟨_, rfl⟩
      have e1 : (p : Int) + 1 = (q : Int) := by omega
      rw [← hq] at hI2 HLR
      have hqn : q ≤ n := by omega
      have hpq : p < q := by omega
      have HQ := Lib.hid hq
      clear hd3 hdrop hI hq
      by_cases hk1 : d3.toNat = 1
      · have hn8 : n8 d3 = 1 := by unfold n8; omega
        by_cases hz1 : q = n
        · have HNO := Lib.hid (InvK.bad' hI2.out (by rw [List.eq_nil_of_length_eq_zero (show (b.drop q).length = 0 by rw [HLR.out, hz1, Nat.sub_self])]; exact key1no d3 hk1))
          have q1 : (q : Int) = (n : Int) := by omega
          clear hk1 hI2 hz1
          go_wp2_with fail
          go_ret2
          exact .inr ⟨HNO.out, rfl, hbr.alloc hsr _⟩
        have hqlt : q < n := by omega
        obtain ⟨d5, hd5⟩ : ∃ d5, b[q]? = some d5 := ⟨b[q]'(by have := HB.out; omega), List.getElem?_eq_getElem _⟩
        have hdrop5 : b.drop q = d5 :: b.drop (q + 1) := by
          have hlen : q < b.length := by have := HB.out; omega
          rw [List.drop_eq_getElem_cons hlen]
          congr 1
          rw [List.getElem?_eq_getElem hlen] at hd5
          injection hd5
        have hcq : ∀ X, (wr.alloc X).cell? ⟨b0, o0 + q, none⟩ = some (.int .u8 (n8 d5)) := fun X => (World.cell?_alloc_lt wr X ⟨b0, o0 + q, none⟩ (by show b0 < wr.heap.size; omega)).trans (HAT.out q d5 hd5)
        obtain ⟨q2, hq2⟩ : ∃ q2, q2 = q + 1 := ⟨_, rfl⟩
        have e2 : (q : Int) + 1 = (q2 : Int) := by omega
        have hst := key1yes d3 d5 (b.drop (q + 1)) hk1
        rw [← hdrop5, ← hq2] at hst
        have HST := Lib.hid hst
        have q1 : ¬ (q : Int) = (n : Int) := by omega
        have q3 : (q : Int) < (n : Int) := by omega
        have hq2n : q2 ≤ n := by omega
        have hpq2 : p < q2 := by omega
        clear hk1 hd5 hdrop5 hq2 hst
        go_wp2_with (at_builtin; refine wpList_append_val _ rfl (.tmp 93) (.tmp 95) rfl ⟨1, d5.toNat, []⟩ _ _ _ rfl (wrap64_byte d5) rfl _ (by simp) rfl rfl (by first | exact (hown.alloc _).setCell hfar.out _ | exact hown.alloc _) (by omega) (by simp; omega) ?_; intro A6 c6 w6 hown6' hb6'; have hown6 := Lib.hid hown6'; have hb6 := Lib.hid hb6'; clear hown6' hb6')
        go_roundw
        case rel => exact ⟨q2, out ++ [⟨1, d5.toNat, []⟩], A6, mo + 1, c6, rfl, rfl, hown6.out, by omega, by omega, Lib.hid (InvK.step hI2.out (by rw [List.length_cons, HLR.out]; omega) HST.out), Below.trans (by first | exact ((hbr.alloc hsr _).setCell hsr _) | exact (hbr.alloc hsr _)) hb6.out⟩
        case measure => simp [intOf]; omega
      by_cases hk2 : d3.toNat = 2
      · have hn8 : n8 d3 = 2 := by unfold n8; omega
        by_cases hz1 : n - q < 8
        · have HNO := Lib.hid (InvK.bad' hI2.out (key2no d3 _ hk2 (by rw [HLR.out]; exact hz1)))
          have q1 : (n : Int) - (q : Int) < 8 := by omega
          clear hk1 hk2 hI2
          go_wp2_with fail
          go_ret2
          exact .inr ⟨HNO.out, rfl, hbr.alloc hsr _⟩
        have q1 : ¬ (n : Int) - (q : Int) < 8 := by omega
        obtain ⟨q2, hq2⟩ : ∃ q2, q2 = q + 8 := ⟨_, rfl⟩
        have e2 : (q : Int) + 8 = (q2 : Int) := by omega
        have hq2n : q2 ≤ n := by omega
        have hpq2 : p < q2 := by omega
        have hq8 : q + 8 ≤ n := by omega
        have hst := key2yes d3 (b.drop q) hk2 (by rw [HLR.out]; exact hz1)
        rw [List.drop_drop, ← hq2] at hst
        have HST := Lib.hid hst
        have HL8 : Hid (((b.drop q).take 8).length = 8) := by
          show ((b.drop q).take 8).length = 8
          rw [List.length_take, HLR.out]; omega
        have HLJ : Hid (∀ j, j < 8 → ((b.drop q).take 8)[j]? = b[q + j]?) := by
          intro j hj
          rw [List.getElem?_take, if_pos hj, List.getElem?_drop]
        clear hk1 hk2 hq2 hst hz1
        generalize (b.drop q).take 8 = l8 at *
        go_wp2_with fail
        go_loop [7, 8] (fun u i => ∃ j : Nat, j ≤ 8 ∧ i = .int .i64 (j : Int) ∧ u = .int .u64 (bev (l8.take j) : Int)) (fun _ i => 8 - (intOf i).toNat)
        case atStart => exact ⟨0, by omega, rfl, rfl⟩
        case round =>
          obtain ⟨j, hj, rfl, rfl⟩ := hrel
          by_cases hj8 : j < 8
          · obtain ⟨dj, hdj⟩ : ∃ dj, b[q + j]? = some dj := ⟨b[q + j]'(by have := HB.out; omega), List.getElem?_eq_getElem _⟩
            have HS := Lib.hid (unbig_step j l8 dj (by omega) (by rw [HLJ.out j hj8]; exact hdj))
            have hcj : ∀ X, (wr.alloc X).cell? ⟨b0, o0 + (q + j), none⟩ = some (.int .u8 (n8 dj)) := fun X => (World.cell?_alloc_lt wr X ⟨b0, o0 + (q + j), none⟩ (by show b0 < wr.heap.size; omega)).trans (HAT.out (q + j) dj hdj)
            have r1 : (q : Int) + (j : Int) < (n : Int) := by omega
            clear hdj
            generalize hy : bev (l8.take j) = y at *
            go_wp2_with fail
            go_round
            case rel => exact ⟨j + 1, by omega, by go_num, by rw [HS.out.1, mul_add y dj HS.out.2]⟩
            case measure => simp [intOf]; omega
          · obtain rfl : j = 8 := by omega
            have hyy : bev (l8.take 8) = (deB l8).toNat := by
              rw [List.take_of_length_le (by rw [HL8.out]; exact Nat.le_refl _), deB_nat l8 (by rw [HL8.out]; exact Nat.le_refl _)]
            have hx : bits .xor .u64 ((bev (l8.take 8) : Nat) : Int) 9223372036854775808 = n64 (signX (deB l8)) := by
              rw [hyy]; exact xor_sign (deB l8)
            have HM := Lib.hid (wrap64_n64 (signX (deB l8)))
            clear hyy HLJ
            generalize bev (l8.take 8) = y at *
            generalize signX (deB l8) = x64 at *
            go_wp2_with (at_builtin; refine wpList_append_val _ rfl (.tmp 93) (.tmp 95) rfl ⟨2, x64.toInt, []⟩ _ _ _ rfl HM.out rfl _ (by simp) rfl rfl (by first | exact (hown.alloc _).setCell hfar.out _ | exact hown.alloc _) (by omega) (by simp; omega) ?_; intro A6 c6 w6 hown6' hb6'; have hown6 := Lib.hid hown6'; have hb6 := Lib.hid hb6'; clear hown6' hb6')
            go_roundw
            case rel => exact ⟨q2, out ++ [⟨2, x64.toInt, []⟩], A6, mo + 1, c6, rfl, rfl, hown6.out, by omega, by omega, Lib.hid (InvK.step hI2.out (by rw [List.length_cons, HLR.out]; omega) HST.out), Below.trans (by first | exact ((hbr.alloc hsr _).setCell hsr _) | exact (hbr.alloc hsr _)) hb6.out⟩
            case measure => simp [intOf]; omega
      by_cases hk3 : d3.toNat = 3
      · have hn8 : n8 d3 = 3 := by unfold n8; omega
        have HK3 := Lib.hid hk3
        clear hk1 hk2 hk3
        go_wp2_with fail
        go_loop [9] (fun v => ∃ m : Nat, q ≤ m ∧ m ≤ n ∧ v = .int .i64 (m : Int) ∧ Hid (∀ i, i < m - q → ¬ (b.drop q)[i]? = some 0)) (fun v => n - (intOf v).toNat)
        case atStart => exact ⟨q, Nat.le_refl _, hqn, rfl, fun i hi => by omega⟩
        case round =>
          obtain ⟨m, hqm, hmn, rfl, HZ⟩ := hrel
          by_cases hmlt : m < n
          · obtain ⟨dm, hdm⟩ : ∃ dm, b[m]? = some dm := ⟨b[m]'(by have := HB.out; omega), List.getElem?_eq_getElem _⟩
            have hdm2 : (b.drop q)[m - q]? = some dm := by rw [List.getElem?_drop, show q + (m - q) = m by omega]; exact hdm
            have hcm : ∀ X, (wr.alloc X).cell? ⟨b0, o0 + m, none⟩ = some (.int .u8 (n8 dm)) := fun X => (World.cell?_alloc_lt wr X ⟨b0, o0 + m, none⟩ (by show b0 < wr.heap.size; omega)).trans (HAT.out m dm hdm)
            have r1 : (m : Int) < (n : Int) := by omega
            have HD2 := Lib.hid hdm2
            clear hdm hdm2
            by_cases hd0 : dm = 0
            · have hz8 : n8 dm = 0 := by rw [hd0]; rfl
              have hst := key3yes d3 (b.drop q) (m - q) HK3.out HZ.out (by rw [← hd0]; exact HD2.out)
              have hlen1 : m - q + 1 + q = m + 1 := by omega
              obtain ⟨q2, hq2⟩ : ∃ q2, q2 = m + 1 := ⟨_, rfl⟩
              rw [List.drop_drop, show q + (m - q + 1) = q2 by omega] at hst
              have HST := Lib.hid hst
              have e2 : (m : Int) + 1 = (q2 : Int) := by omega
              have hq2n : q2 ≤ n := by omega
              have hpq2 : p < q2 := by omega
              have r2 : ¬ (m : Int) = (n : Int) := by omega
              have r3 : (q : Int) ≤ (m : Int) := by omega
              obtain ⟨AT, hslT, hbT⟩ := cut_mid bty (some ⟨b0, o0, none⟩) n c q m hqm hmn hnc
              have hyT := hbT _ _ _ HRR.out
              have hs1 := fun X => run_str_byt (S := 9) Try.underlying25 Try.underlying5 Try.underlying9 _ (hyT.alloc (by omega) X) (c - q)
              clear hd0 hst hq2 hbT hlen1
              generalize (b.drop q).take (m - q) = tx at *
              go_wp2_with (at_builtin; refine wpList_append_val _ rfl (.tmp 93) (.tmp 95) rfl ⟨3, 0, tx⟩ _ _ _ rfl rfl rfl _ (by simp) rfl rfl (by first | exact (hown.alloc _).setCell hfar.out _ | exact hown.alloc _) (by omega) (by simp; omega) ?_; intro A6 c6 w6 hown6' hb6'; have hown6 := Lib.hid hown6'; have hb6 := Lib.hid hb6'; clear hown6' hb6')
              go_roundw
              case rel => exact ⟨q2, out ++ [⟨3, 0, tx⟩], A6, mo + 1, c6, rfl, rfl, hown6.out, by omega, by omega, Lib.hid (InvK.step hI2.out (by rw [List.length_cons, HLR.out]; omega) HST.out), Below.trans (by first | exact ((hbr.alloc hsr _).setCell hsr _) | exact (hbr.alloc hsr _)) hb6.out⟩
              case measure => simp [intOf]; omega
            · have hz8 : ¬ n8 dm = 0 := fun h => hd0 (n8_inj (h.trans (by rfl)))
              have HNZ : Hid (∀ i, i < m + 1 - q → ¬ (b.drop q)[i]? = some 0) := by
                intro i hi hh
                rcases Nat.lt_or_ge i (m - q) with h | h
                · exact HZ.out i h hh
                · have him : i = m - q := by omega
                  rw [him, HD2.out] at hh
                  injection hh with hh
                  exact hd0 hh
              clear hd0
              go_wp2_with fail
              go_round
              case rel => exact ⟨m + 1, by omega, by omega, by go_num, HNZ⟩
              case measure => simp [intOf]; omega
          · obtain rfl : m = n := by omega
            have hno : ¬ (0 : UInt8) ∈ b.drop q := by
              intro hm
              obtain ⟨i, hi, he⟩ := List.mem_iff_getElem.1 hm
              refine HZ.out i ?_ (by rw [List.getElem?_eq_getElem hi, he])
              rw [HLR.out] at hi
              exact hi
            have HNO := Lib.hid (InvK.bad' hI2.out (key3no d3 _ HK3.out hno))
            clear hno hI2
            go_wp2_with fail
            go_ret2
            exact .inr ⟨HNO.out, rfl, hbr.alloc hsr _⟩
      · have hh1 : ¬ n8 d3 = 1 := by unfold n8; omega
        have hh2 : ¬ n8 d3 = 2 := by unfold n8; omega
        have hh3 : ¬ n8 d3 = 3 := by unfold n8; omega
        have HST := Lib.hid (key0 d3 (b.drop q) hk1 hk2 hk3)
        have hkk := wrap64_byte d3
        have hw := wrap64_n8 d3
        clear hk1 hk2 hk3
        go_wp2_with (at_builtin; refine wpList_append_val _ rfl (.tmp 93) (.tmp 95) rfl ⟨d3.toNat, 0, []⟩ _ _ _ (by first | rfl | exact hkk) rfl rfl _ (by simp) rfl rfl (by first | exact (hown.alloc _).setCell hfar.out _ | exact hown.alloc _) (by omega) (by simp; omega) ?_; intro A6 c6 w6 hown6' hb6'; have hown6 := Lib.hid hown6'; have hb6 := Lib.hid hb6'; clear hown6' hb6')
        go_roundw
        case rel => exact ⟨q, out ++ [⟨d3.toNat, 0, []⟩], A6, mo + 1, c6, rfl, rfl, hown6.out, by omega, by omega, Lib.hid (InvK.step hI2.out (by rw [List.length_cons, HLR.out]; omega) HST.out), Below.trans (by first | exact ((hbr.alloc hsr _).setCell hsr _) | exact (hbr.alloc hsr _)) hb6.out⟩
        case measure => simp [intOf]; omega
    · obtain rfl : p = n := by omega
      have hnil : b.drop p = [] := List.drop_of_length_le (by rw [HB.out]; exact Nat.le_refl _)
      have hI0 : Hid (InvK b out []) := by have := hI; rwa [hnil] at this
      have hvals := hown.vals (hI0.out).1
      clear hnil hI
      go_wp2_with fail
      refine (values_any Ao mo co out 3 3 rfl _ wr (by omega) hvals (Nat.le_refl _)).mono ?_
      rintro e w4 ⟨rfl, hb4⟩
      have hb4' := hbr.trans (hb4.mono hsr)
      by_cases hR : rightF out 3 = 0
      · have HG := Lib.hid (InvK.good hI0.out hR)
        have HW := Lib.hid (InvK.whole hI0.out hR)
        rw [hR]
        clear hR
        go_wp2_with fail
        go_ret2
        exact .inl ⟨out, Ao, mo, co, HG.out.1, HG.out.2, HW.out, rfl, hown.below hb4, hb4'⟩
      · have HNO := Lib.hid (InvK.wrong hI0.out hR (.inl rfl))
        have hne : ¬ ((rightF out 3 : Nat) : Int) = 0 := by omega
        clear hR hI0
        generalize rightF out 3 = R at *
        go_wp2_with fail
        go_ret2
        exact .inr ⟨HNO.out, rfl, hb4'⟩
end Go.Proofs.Ytjmpolabpgmjpaa
