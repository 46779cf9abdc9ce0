/-
  The walks of Unbig and bytes.IndexByte.
-/
import Derived.Test.YtjmpolabpgmjpaaCut
import Derived.Lib.BytesEntry
namespace Go.Proofs.Ytjmpolabpgmjpaa
open Go.RowKit

/-- The first zero byte. -/
theorem index_zero (l : List UInt8) : Lib.indexByte l 0 = if (0 : UInt8) ∈ l then ((l.takeWhile (fun y => y != 0)).length : Int) else -1 := by
  induction l with
  | nil => rfl
  | cons b l ih =>
    unfold Lib.indexByte
    by_cases hb : b = 0
    · subst hb
      simp
    · have hbf : (b == 0) = false := by rw [beq_eq_false_iff_ne]; exact hb
      have hbn : (b != 0) = true := by rw [bne_iff_ne]; exact hb
      rw [hbf, ih]
      have hm : (0 : UInt8) ∈ b :: l ↔ (0 : UInt8) ∈ l := by
        rw [List.mem_cons]
        exact ⟨fun h => h.resolve_left (fun e => hb e.symm), .inr⟩
      by_cases h0 : (0 : UInt8) ∈ l
      · rw [if_pos h0, if_pos (hm.2 h0), List.takeWhile_cons, if_pos hbn, List.length_cons]
        have : ¬ ((l.takeWhile (fun y => y != 0)).length : Int) = -1 := by omega
        simp [this]
      · rw [if_neg h0, if_neg (fun h => h0 (hm.1 h))]
        rfl
theorem bytesOf_n8 (l : List UInt8) : Lib.bytesOf (l.map n8) = l := by
  unfold Lib.bytesOf
  rw [List.map_map]
  conv => rhs; rw [← List.map_id l]
  refine List.map_congr_left fun d _ => ?_
  show (n8 d).toNat.toUInt8 = d
  unfold n8
  simp
theorem find_run (A : Option Addr) (n c : Nat) (l : List UInt8) (B : Nat) (W : World) (h : Byt W B A n l) :
    (Extern.BytealgIndexByte.indexByte #[.slice A n c, .int .u8 0]).run Try.prog W = .ok (.int .i64 (Lib.indexByte l 0)) W := by
  rcases Nat.eq_zero_or_pos n with h0 | h0
  · subst h0
    have hl : l = [] := List.eq_nil_of_length_eq_zero h.1
    subst hl
    cases A <;> rfl
  · obtain ⟨b, off, rfl, _, hc⟩ := h.2 h0
    have := Lib.run_indexByteSlice (P := Try.prog) W b off n c (l.map n8) (by rw [List.length_map, h.1]) (by
      intro i hi
      have hl : i < l.length := by rw [h.1]; exact hi
      rw [hc i l[i] (List.getElem?_eq_getElem hl)]
      simp [List.getD, List.getElem?_map, List.getElem?_eq_getElem hl]) 0
    rw [bytesOf_n8] at this
    exact this
theorem find_any (A : Option Addr) (n c : Nat) (l : List UInt8) (B : Nat) (w : World) (h : Byt w B A n l) :
    Calls Try.prog 37 #[.slice A n c, .int .u8 0] w fun e w' => e = .returned (.int .i64 (Lib.indexByte l 0)) ∧ w' = w := by
  have hx : (callFunc 41 #[.slice A n c, .int .u8 0]).run Try.prog w = .ok (.value (.int .i64 (Lib.indexByte l 0))) w := by
    rw [run_callFunc_extern Try.func41 (by kernel_rfl) (by kernel_rfl) (by kernel_rfl) (e := Extern.BytealgIndexByte.indexByte) (by kernel_rfl), find_run A n c l B w h]
    rfl
  generalize Lib.indexByte l 0 = r at *
  go_enter Try.func37, Try.ntmps37
  go_wp2_with fail
  go_ret
  exact ⟨rfl, rfl⟩

theorem unbig_step (k : Nat) (l : List UInt8) (d : UInt8) (hk : k < 8) (hd : l[k]? = some d) : bev (l.take (k + 1)) = bev (l.take k) * 256 + d.toNat ∧ bev (l.take k) < 72057594037927936 := by
  refine ⟨by rw [List.take_add_one, hd]; exact bev_snoc _ _, ?_⟩
  have h := bev_lt (l.take k)
  have h2 : (l.take k).length ≤ 7 := by rw [List.length_take]; omega
  exact Nat.lt_of_lt_of_le h (Nat.le_trans (Nat.pow_le_pow_right (by omega) h2) (by decide))
theorem big_or (y : Nat) (d : UInt8) (hy : y < 72057594037927936) : bits .or .u64 (IntKind.u64.wrap ((y : Int) * 256)) (IntKind.u64.wrap (n8 d)) = ((y * 256 + d.toNat : Nat) : Int) := by
  have hd : d.toNat < 256 := d.toNat_lt
  have e1 : IntKind.u64.wrap ((y : Int) * 256) = ((y * 256 : Nat) : Int) := by
    rw [IntKind.wrap_u64]; omega
  have e2 : IntKind.u64.wrap (n8 d) = (d.toNat : Int) := wrap_n8 d
  rw [e1, e2, u64_or_nat _ _ (by omega) (by omega), nat_join 8 _ _ (by omega) (by omega)]
theorem unbig_any (A : Option Addr) (n c : Nat) (l : List UInt8) (B : Nat) (w : World) (hn : n ≤ 8) (hr : Byt w B A n l) :
    Calls Try.prog 36 #[.slice A n c] w fun e w' => e = .returned (.int .u64 (n64 (deB l))) ∧ w = w' := by
  go_enter Try.func36, Try.ntmps36
  go_wp2_with fail
  go_loop [3, 8] (fun r i => ∃ k : Nat, k ≤ n ∧ i = .int .i64 k ∧ r = .int .u64 (bev (l.take k) : Int)) (fun _ i => n - (intOf i).toNat)
  case atStart => exact ⟨0, Nat.zero_le _, rfl, rfl⟩
  case round =>
    obtain ⟨k, hk, rfl, rfl⟩ := hrel
    by_cases hlt : k < n
    · obtain ⟨b, off, d, rfl, hb, hd, hcell⟩ := hr.at_ hlt
      have HS := Lib.hid (unbig_step k l d (by omega) hd)
      clear hd
      generalize hy : bev (l.take k) = y at *
      go_wp2_with fail
      go_round
      case rel =>
        exact ⟨k + 1, by omega, by go_num, by rw [HS.out.1, big_or y d HS.out.2]⟩
      case measure => simp [intOf]; omega
    · obtain rfl : k = n := by omega
      have HE := Lib.hid hr.len
      go_wp2_with fail
      go_ret
      refine ⟨ret_int ?_, rfl⟩
      unfold n64
      rw [deB_nat l (by rw [HE.out]; exact hn), ← HE.out, List.take_length]
end Go.Proofs.Ytjmpolabpgmjpaa
