/-
  Slices of values in memory; the walks of 'right', of the document's 'values', and of 'few'.
-/
import Derived.Test.YtjmpolabpgmjpaaIs
namespace Go.Proofs.Ytjmpolabpgmjpaa
open Go.RowKit

/-- The three cells of value j of a slice of values. -/
def ValAt (w : World) (b off j : Nat) (v : Val) : Prop :=
  w.cell? ⟨b, off + j * 3, none⟩ = some (.int .i64 v.kind) ∧ w.cell? ⟨b, off + j * 3 + 1, none⟩ = some (.int .i64 v.num) ∧ w.cell? ⟨b, off + j * 3 + 2, none⟩ = some (.string (strOf v.text))

/-- The values vs lie at A (nil, or an address below block B), n of them. -/
def Vals (w : World) (B : Nat) (A : Option Addr) (n : Nat) (vs : List Val) : Prop :=
  vs.length = n ∧ (∀ v ∈ vs, v.fits) ∧ (0 < n → ∃ b off, A = some ⟨b, off, none⟩ ∧ b < B ∧ ∀ j v, vs[j]? = some v → ValAt w b off j v)

section
variable {w w' : World} {B B' n : Nat} {A : Option Addr} {vs : List Val}
theorem Vals.nil_ (A : Option Addr) : Vals w B A 0 [] := ⟨rfl, (fun v h => absurd h (by simp)), fun h => absurd h (by omega)⟩
theorem Vals.len (h : Vals w B A n vs) : vs.length = n := h.1
theorem Vals.at_ {k : Nat} (h : Vals w B A n vs) (hk : k < n) : ∃ b off v, A = some ⟨b, off, none⟩ ∧ b < B ∧ vs[k]? = some v ∧ v.fits ∧ ValAt w b off k v := by
  obtain ⟨b, off, e, hb, hc⟩ := h.2.2 (by omega)
  have hl : k < vs.length := by have := h.1; omega
  exact ⟨b, off, vs[k], e, hb, List.getElem?_eq_getElem hl, h.2.1 _ (List.getElem_mem _), hc k _ (List.getElem?_eq_getElem hl)⟩
theorem ValAt.keep {b off j : Nat} {v : Val} (h : ValAt w b off j v) (hk : ∀ p : Addr, p.block = b → w'.cell? p = w.cell? p) : ValAt w' b off j v :=
  ⟨(hk _ rfl).trans h.1, (hk _ rfl).trans h.2.1, (hk _ rfl).trans h.2.2⟩
theorem Vals.keep (h : Vals w B A n vs) (hk : ∀ p : Addr, p.block < B → w'.cell? p = w.cell? p) : Vals w' B A n vs :=
  ⟨h.1, h.2.1, fun hn => by
    obtain ⟨b, off, e, hb, hc⟩ := h.2.2 hn
    exact ⟨b, off, e, hb, fun j v hj => (hc j v hj).keep fun p hp => hk p (by rw [hp]; exact hb)⟩⟩
theorem Vals.more (h : Vals w B A n vs) (hB : B ≤ B') : Vals w B' A n vs :=
  ⟨h.1, h.2.1, fun hn => by
    obtain ⟨b, off, e, hb, hc⟩ := h.2.2 hn
    exact ⟨b, off, e, by omega, hc⟩⟩
theorem Vals.below (h : Vals w B A n vs) (hb : Below B w w') : Vals w' B A n vs := h.keep fun _ hp => hb.cell hp
end

/-- What 'right' answers: 71 for too many, 60 where one is no value, 0. -/
def rightF (vs : List Val) (most : Nat) : Nat := if most < vs.length then 71 else if vs.all isV then 0 else 60
theorem rightF_long (vs : List Val) (most : Nat) (h : most < vs.length) : rightF vs most = 71 := by unfold rightF; rw [if_pos h]
theorem rightF_ok (vs : List Val) (most : Nat) (h : vs.length ≤ most) (ha : vs.all isV = true) : rightF vs most = 0 := by unfold rightF; rw [if_neg (by omega), if_pos ha]
theorem rightF_bad (vs : List Val) (most : Nat) (h : vs.length ≤ most) (k : Nat) (v : Val) (hk : vs[k]? = some v) (hv : isV v = false) : rightF vs most = 60 := by
  unfold rightF
  rw [if_neg (by omega), if_neg]
  intro ha
  rw [List.all_eq_true] at ha
  have := ha v (List.mem_of_getElem? hk)
  rw [hv] at this
  cases this

set_option maxHeartbeats 800000 in
theorem right_any (A : Option Addr) (n c : Nat) (vs : List Val) (m : Int) (most : Nat) (hm : m = (most : Int)) (B : Nat) (w : World) (hn : n ≤ 9223372036854775807) (hr : Vals w B A n vs) (hB : B ≤ w.heap.size) :
    Calls Try.prog 27 #[.slice A n c, .int .i64 m] w fun e w' => e = .returned (.int .i64 (rightF vs most)) ∧ Below w.heap.size w w' := by
  subst hm
  have hlen := hr.len
  by_cases h1 : most < n
  · have hR := rightF_long vs most (by omega)
    have HR := Lib.hid hR
    have h1' : (most : Int) < (n : Int) := by omega
    clear hR hlen
    go_enter Try.func27, Try.ntmps27
    go_wp2_with fail
    go_ret
    exact ⟨by rw [HR.out]; rfl, Below.refl _ _⟩
  · have h1' : ¬ (most : Int) < (n : Int) := by omega
    have HL := Lib.hid hlen
    clear hlen
    go_enter Try.func27, Try.ntmps27
    go_wp2_with fail
    go_loopw [13] (fun v wr => ∃ k : Nat, k ≤ n ∧ v = .int .i64 k ∧ Below w.heap.size w wr ∧ ∀ j v, j < k → vs[j]? = some v → isV v = true) (fun v _ => n - (intOf v).toNat)
    case atStart => exact ⟨0, Nat.zero_le _, rfl, Below.refl _ _, fun j v hj => absurd hj (by omega)⟩
    case round =>
      obtain ⟨k, hk, rfl, hbr, hall⟩ := hrel
      have hs := hbr.size
      by_cases hlt : k < n
      · obtain ⟨b, off, v, rfl, hb, hv, hf, hc0, hc1, hc2⟩ := (hr.below (hbr.mono hB)).at_ hlt
        have p1 : (k : Int) < (n : Int) := by omega
        have HALL := Lib.hid hall
        have HV := Lib.hid hv
        clear hall hv
        go_wp2_with fail
        refine (is_any v.kind v.num v.text hf.2.2.1 hf.2.2.2.1 _).mono ?_
        rintro e w2 ⟨rfl, hb2⟩
        have hb2' := hbr.trans ((((Below.refl _ _).alloc (Nat.le_refl _) _).trans (hb2.mono (by simp))).mono hs)
        cases hi : isV v
        · have hR := rightF_bad vs most (by have := HL.out; omega) k v HV.out hi
          have HR := Lib.hid hR
          clear hR hi hc0 hc1 hc2 hr
          go_wp2_with fail
          go_ret
          exact ⟨by rw [HR.out]; rfl, hb2'⟩
        · have HI2 := Lib.hid hi
          clear hi hc0 hc1 hc2
          go_wp2_with fail
          go_roundw
          case rel =>
            refine ⟨k + 1, by omega, by go_num, hb2', ?_⟩
            intro j u hj hu
            rcases Nat.lt_or_ge j k with h | h
            · exact HALL.out j u h hu
            · obtain rfl : j = k := by omega
              have e := HV.out.symm.trans hu
              injection e with e
              subst e
              exact HI2.out
          case measure => simp [intOf]; omega
      · obtain rfl : k = n := by omega
        have hR := rightF_ok vs most (by have := HL.out; omega) (by
          rw [List.all_eq_true]
          intro v hv
          obtain ⟨j, hj, he⟩ := List.mem_iff_getElem.1 hv
          exact hall j v (by have := HL.out; omega) (by rw [List.getElem?_eq_getElem hj, he]))
        have HR := Lib.hid hR
        clear hR hall
        go_wp2_with fail
        go_ret
        exact ⟨by rw [HR.out]; rfl, hbr⟩
set_option maxHeartbeats 800000 in
theorem values_any (A : Option Addr) (n c : Nat) (vs : List Val) (m : Int) (most : Nat) (hm : m = (most : Int)) (B : Nat) (w : World) (hn : n ≤ 9223372036854775807) (hr : Vals w B A n vs) (hB : B ≤ w.heap.size) :
    Calls Try.prog 29 #[.slice A n c, .int .i64 m] w fun e w' => e = .returned (.int .i64 (rightF vs most)) ∧ Below w.heap.size w w' := by
  subst hm
  have hlen := hr.len
  by_cases h1 : most < n
  · have hR := rightF_long vs most (by omega)
    have HR := Lib.hid hR
    have h1' : (most : Int) < (n : Int) := by omega
    clear hR hlen
    go_enter Try.func29, Try.ntmps29
    go_wp2_with fail
    go_ret
    exact ⟨by rw [HR.out]; rfl, Below.refl _ _⟩
  · have h1' : ¬ (most : Int) < (n : Int) := by omega
    have HL := Lib.hid hlen
    clear hlen
    go_enter Try.func29, Try.ntmps29
    go_wp2_with fail
    go_loopw [5] (fun v wr => ∃ k : Nat, k ≤ n ∧ v = .int .i64 k ∧ Below w.heap.size w wr ∧ ∀ j v, j < k → vs[j]? = some v → isV v = true) (fun v _ => n - (intOf v).toNat)
    case atStart => exact ⟨0, Nat.zero_le _, rfl, Below.refl _ _, fun j v hj => absurd hj (by omega)⟩
    case round =>
      obtain ⟨k, hk, rfl, hbr, hall⟩ := hrel
      have hs := hbr.size
      by_cases hlt : k < n
      · obtain ⟨b, off, v, rfl, hb, hv, hf, hc0, hc1, hc2⟩ := (hr.below (hbr.mono hB)).at_ hlt
        have p1 : (k : Int) < (n : Int) := by omega
        have HALL := Lib.hid hall
        have HV := Lib.hid hv
        clear hall hv
        go_wp2_with fail
        refine (ris_any v.kind v.num v.text hf.2.2.2.2 _).mono ?_
        rintro e w2 ⟨rfl, hb2⟩
        have hb2' := hbr.trans (hb2.mono hs)
        cases hi : isV v
        · have hR := rightF_bad vs most (by have := HL.out; omega) k v HV.out hi
          have HR := Lib.hid hR
          clear hR hi hc0 hc1 hc2 hr
          go_wp2_with fail
          go_ret
          exact ⟨by rw [HR.out]; rfl, hb2'⟩
        · have HI2 := Lib.hid hi
          clear hi hc0 hc1 hc2
          go_wp2_with fail
          go_roundw
          case rel =>
            refine ⟨k + 1, by omega, by go_num, hb2', ?_⟩
            intro j u hj hu
            rcases Nat.lt_or_ge j k with h | h
            · exact HALL.out j u h hu
            · obtain rfl : j = k := by omega
              have e := HV.out.symm.trans hu
              injection e with e
              subst e
              exact HI2.out
          case measure => simp [intOf]; omega
      · obtain rfl : k = n := by omega
        have hR := rightF_ok vs most (by have := HL.out; omega) (by
          rw [List.all_eq_true]
          intro v hv
          obtain ⟨j, hj, he⟩ := List.mem_iff_getElem.1 hv
          exact hall j v (by have := HL.out; omega) (by rw [List.getElem?_eq_getElem hj, he]))
        have HR := Lib.hid hR
        clear hR hall
        go_wp2_with fail
        go_ret
        exact ⟨by rw [HR.out]; rfl, hbr⟩

/-- What 'few' answers. -/
def fewF (vs : List Val) : Bool := vs.all (fun v => decide (v.text.length ≤ 300)) && decide (vs.length ≤ 20)
attribute [local go_sem] strOf_size
set_option maxHeartbeats 800000 in
theorem few_any (A : Option Addr) (n c : Nat) (vs : List Val) (B : Nat) (w : World) (hn : n ≤ 9223372036854775807) (hr : Vals w B A n vs) :
    Calls Try.prog 12 #[.slice A n c] w fun e w' => e = .returned (.bool (fewF vs)) ∧ w = w' := by
  have HL := Lib.hid hr.len
  go_enter Try.func12, Try.ntmps12
  go_wp2_with fail
  go_loop [3] (fun v => ∃ k : Nat, k ≤ n ∧ v = .int .i64 k ∧ ∀ j v, j < k → vs[j]? = some v → v.text.length ≤ 300) (fun v => n - (intOf v).toNat)
  case atStart => exact ⟨0, Nat.zero_le _, rfl, fun j v hj => absurd hj (by omega)⟩
  case round =>
    obtain ⟨k, hk, rfl, hall⟩ := hrel
    by_cases hlt : k < n
    · obtain ⟨b, off, v, rfl, hb, hv, hf, hc0, hc1, hc2⟩ := hr.at_ hlt
      have p1 : (k : Int) < (n : Int) := by omega
      have HALL := Lib.hid hall
      have HV := Lib.hid hv
      have hfm := hf.2.2.2.2
      clear hall hc0 hc1
      by_cases h3 : 300 < v.text.length
      · have h3' : (300 : Int) < (v.text.length : Int) := by omega
        have hR : fewF vs = false := by
          unfold fewF
          rw [Bool.and_eq_false_iff]
          left
          rw [List.all_eq_false]
          exact ⟨v, List.mem_of_getElem? hv, by simp; omega⟩
        have HR := Lib.hid hR
        clear hR hv
        go_wp2_with fail
        go_ret
        exact ⟨by rw [HR.out]; rfl, rfl⟩
      · have h3' : ¬ (300 : Int) < (v.text.length : Int) := by omega
        clear hv
        go_wp2_with fail
        go_round
        case rel =>
          refine ⟨k + 1, by omega, by go_num, ?_⟩
          intro j u hj hu
          rcases Nat.lt_or_ge j k with h | h
          · exact HALL.out j u h hu
          · obtain rfl : j = k := by omega
            have e := HV.out.symm.trans hu
            injection e with e
            subst e
            omega
        case measure => simp [intOf]; omega
    · obtain rfl : k = n := by omega
      have hR : fewF vs = decide (k ≤ 20) := by
        unfold fewF
        rw [HL.out]
        have : vs.all (fun v => decide (v.text.length ≤ 300)) = true := by
          rw [List.all_eq_true]
          intro v hv
          obtain ⟨j, hj, he⟩ := List.mem_iff_getElem.1 hv
          simpa using hall j v (by have := HL.out; omega) (by rw [List.getElem?_eq_getElem hj, he])
        rw [this]
        rfl
      have HR := Lib.hid hR
      clear hR hall
      by_cases h20 : k ≤ 20
      · have h20' : (k : Int) ≤ 20 := by omega
        go_wp2_with fail
        go_ret
        exact ⟨by rw [HR.out]; simp [h20], rfl⟩
      · have h20' : ¬ (k : Int) ≤ 20 := by omega
        go_wp2_with fail
        go_ret
        exact ⟨by rw [HR.out]; simp [h20], rfl⟩
end Go.Proofs.Ytjmpolabpgmjpaa
