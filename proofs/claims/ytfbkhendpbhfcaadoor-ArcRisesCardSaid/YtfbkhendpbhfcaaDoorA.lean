/-
  The small functions of package arc and of its reference: what each call returns.
-/
import Derived.Test.YtfbkhendpbhfcaaDoorChecked
import Derived.WalkKit
import Derived.WalkLawsBesides
import Derived.Lib.Hide
import Derived.Deep.QuietTactic
import Derived.BigQuiet
namespace Go.Proofs.YtfbkhendpbhfcaaDoor
open Go.RowKit

theorem bits_mask (n : Int) : bits .and .i64 n 65535 = n % 65536 := by
  have h2 : (BitVec.ofInt 64 65535).toNat = 2 ^ 16 - 1 := by decide
  have h1 : (BitVec.ofInt 64 n).toNat = (n % (2 ^ 64 : Nat)).toNat := BitVec.toNat_ofInt n
  show IntKind.i64.wrap ((BitVec.ofInt 64 n &&& BitVec.ofInt 64 65535).toNat : Int) = _
  rw [BitVec.toNat_and, h1, h2, Nat.and_two_pow_sub_one_eq_mod]
  have h3 : (((n % (2 ^ 64 : Nat)).toNat % 2 ^ 16 : Nat) : Int) = n % 65536 := by omega
  rw [h3]
  simp [IntKind.wrap, IntKind.bits, IntKind.signed]
  omega

theorem place_any (n : Int) (w : World) : Calls Tryd.prog 12 #[.int .i64 n] w fun e w' => e = .returned (.int .i64 (n % 65536)) ∧ w = w' := by
  have hb := bits_mask n
  go_enter Tryd.func12, Tryd.ntmps12
  go_wp2
  go_ret
  exact ⟨rfl, rfl⟩

theorem wrap64_id {x : Int} (h1 : -9223372036854775808 ≤ x) (h2 : x ≤ 9223372036854775807) : wrap64 x = x := by unfold wrap64; omega
theorem tmod_facts (n : Int) : -65536 < n.tmod 65536 ∧ n.tmod 65536 < 65536 ∧ (n.tmod 65536 + 65536) % 65536 = n % 65536 := by
  have := Int.tmod_add_mul_tdiv n 65536
  have h2 := Int.tmod_lt_of_pos n (show (0 : Int) < 65536 by omega)
  have h3 := Int.lt_tmod_of_pos n (show (0 : Int) < 65536 by omega)
  omega

theorem refplace_any (n : Int) (w : World) : Calls Tryd.prog 13 #[.int .i64 n] w fun e w' => e = .returned (.int .i64 (n % 65536)) ∧ w = w' := by
  obtain ⟨h2, h3, h4⟩ := tmod_facts n
  rw [← h4]
  clear h4
  go_enter Tryd.func13, Tryd.ntmps13
  go_wp2
  go_ret
  exact ⟨rfl, rfl⟩

/-- How far b is from a. -/
def far (a b : Int) : Int := (b - a) % 65536
theorem mod_bd (a : Int) : 0 ≤ a % 65536 ∧ a % 65536 < 65536 := by omega
theorem far_bd (a b : Int) : 0 ≤ far a b ∧ far a b < 65536 := by unfold far; omega

theorem far_any (a b : Int) (w : World) : Calls Tryd.prog 14 #[.int .i64 a, .int .i64 b] w fun e w' => e = .returned (.int .i64 (far a b)) ∧ w = w' := by
  obtain ⟨h1, h2⟩ := mod_bd a
  obtain ⟨h3, h4⟩ := mod_bd b
  unfold far
  go_enter Tryd.func14, Tryd.ntmps14
  go_wp2_with (go_at_call 12; refine (place_any _ _).mono ?_; rintro e w' ⟨rfl, rfl⟩)
  go_ret
  exact ⟨rfl, rfl⟩
theorem reffar_any (a b : Int) (w : World) : Calls Tryd.prog 15 #[.int .i64 a, .int .i64 b] w fun e w' => e = .returned (.int .i64 (far a b)) ∧ w = w' := by
  obtain ⟨h1, h2⟩ := mod_bd a
  obtain ⟨h3, h4⟩ := mod_bd b
  unfold far
  go_enter Tryd.func15, Tryd.ntmps15
  go_wp2_with (go_at_call 13; refine (refplace_any _ _).mono ?_; rintro e w' ⟨rfl, rfl⟩)
  go_ret
  exact ⟨rfl, rfl⟩

/-- Whether x is strictly between a and b. -/
def inB (a x b : Int) : Bool := if far a b = 0 then decide (0 < far a x) else (decide (0 < far a x) && decide (far a x < far a b))
theorem inB_zero {a x b : Int} (h : far a b = 0) : inB a x b = decide (0 < far a x) := by simp [inB, h]
theorem inB_else {a x b : Int} (h : ¬ far a b = 0) : inB a x b = (decide (0 < far a x) && decide (far a x < far a b)) := by simp [inB, h]
theorem far_zero (a b : Int) : far a b = 0 ↔ a % 65536 = b % 65536 := by unfold far; omega

theorem in_any (a x b : Int) (w : World) : Calls Tryd.prog 16 #[.int .i64 a, .int .i64 x, .int .i64 b] w fun e w' => e = .returned (.bool (inB a x b)) ∧ w = w' := by
  by_cases c1 : far a b = 0
  · rw [inB_zero c1]
    have k1 : (far a b == 0) = true := by simpa using c1
    clear c1
    go_enter Tryd.func16, Tryd.ntmps16
    go_wp2_with (go_at_call 14; refine (far_any _ _ _).mono ?_; rintro e w' ⟨rfl, rfl⟩)
    go_ret
    exact ⟨rfl, rfl⟩
  · rw [inB_else c1]
    have k1 : (far a b == 0) = false := by simpa using c1
    clear c1
    by_cases c2 : 0 < far a x
    · rw [decide_eq_true c2, Bool.true_and]
      go_enter Tryd.func16, Tryd.ntmps16
      go_wp2_with (go_at_call 14; refine (far_any _ _ _).mono ?_; rintro e w' ⟨rfl, rfl⟩)
      go_ret
      exact ⟨rfl, rfl⟩
    · rw [decide_eq_false c2, Bool.false_and]
      go_enter Tryd.func16, Tryd.ntmps16
      go_wp2_with (go_at_call 14; refine (far_any _ _ _).mono ?_; rintro e w' ⟨rfl, rfl⟩)
      go_ret
      exact ⟨rfl, rfl⟩

theorem refin_any (a x b : Int) (w : World) : Calls Tryd.prog 17 #[.int .i64 a, .int .i64 x, .int .i64 b] w fun e w' => e = .returned (.bool (inB a x b)) ∧ w = w' := by
  by_cases c1 : far a b = 0
  · have k0 : inB a x b = (x % 65536 != a % 65536) := by
      rw [inB_zero c1, Bool.eq_iff_iff]
      have := far_bd a x
      have := far_zero a x
      simp only [decide_eq_true_eq, bne_iff_ne]
      omega
    rw [k0]
    have k1 : (a % 65536 == b % 65536) = true := by simpa using (far_zero a b).1 c1
    clear c1 k0
    go_enter Tryd.func17, Tryd.ntmps17
    go_wp2_with (first | (go_at_call 13; refine (refplace_any _ _).mono ?_; rintro e w' ⟨rfl, rfl⟩) | (go_at_call 15; refine (reffar_any _ _ _).mono ?_; rintro e w' ⟨rfl, rfl⟩))
    go_ret
    exact ⟨rfl, rfl⟩
  · rw [inB_else c1]
    have k1 : (a % 65536 == b % 65536) = false := by
      have := mt (far_zero a b).2 c1
      simpa using this
    clear c1
    by_cases c2 : 0 < far a x
    · rw [decide_eq_true c2, Bool.true_and]
      go_enter Tryd.func17, Tryd.ntmps17
      go_wp2_with (first | (go_at_call 13; refine (refplace_any _ _).mono ?_; rintro e w' ⟨rfl, rfl⟩) | (go_at_call 15; refine (reffar_any _ _ _).mono ?_; rintro e w' ⟨rfl, rfl⟩))
      go_ret
      exact ⟨rfl, rfl⟩
    · rw [decide_eq_false c2, Bool.false_and]
      go_enter Tryd.func17, Tryd.ntmps17
      go_wp2_with (first | (go_at_call 13; refine (refplace_any _ _).mono ?_; rintro e w' ⟨rfl, rfl⟩) | (go_at_call 15; refine (reffar_any _ _ _).mono ?_; rintro e w' ⟨rfl, rfl⟩))
      go_ret
      exact ⟨rfl, rfl⟩

/-- Whether x is strictly between a and b, or at b's place. -/
def upB (a x b : Int) : Bool := inB a x b || (x % 65536 == b % 65536)
theorem upto_any (a x b : Int) (w : World) : Calls Tryd.prog 18 #[.int .i64 a, .int .i64 x, .int .i64 b] w fun e w' => e = .returned (.bool (upB a x b)) ∧ w = w' := by
  unfold upB
  cases c : inB a x b with
  | true =>
    rw [Bool.true_or]
    go_enter Tryd.func18, Tryd.ntmps18
    go_wp2_with (first | (go_at_call 12; refine (place_any _ _).mono ?_; rintro e w' ⟨rfl, rfl⟩) | (go_at_call 16; refine (in_any _ _ _ _).mono ?_; rintro e w' ⟨rfl, rfl⟩))
    go_ret
    exact ⟨rfl, rfl⟩
  | false =>
    rw [Bool.false_or]
    go_enter Tryd.func18, Tryd.ntmps18
    go_wp2_with (first | (go_at_call 12; refine (place_any _ _).mono ?_; rintro e w' ⟨rfl, rfl⟩) | (go_at_call 16; refine (in_any _ _ _ _).mono ?_; rintro e w' ⟨rfl, rfl⟩))
    go_ret
    exact ⟨rfl, rfl⟩
theorem refupto_any (a x b : Int) (w : World) : Calls Tryd.prog 19 #[.int .i64 a, .int .i64 x, .int .i64 b] w fun e w' => e = .returned (.bool (upB a x b)) ∧ w = w' := by
  unfold upB
  cases c : inB a x b with
  | true =>
    rw [Bool.true_or]
    go_enter Tryd.func19, Tryd.ntmps19
    go_wp2_with (first | (go_at_call 13; refine (refplace_any _ _).mono ?_; rintro e w' ⟨rfl, rfl⟩) | (go_at_call 17; refine (refin_any _ _ _ _).mono ?_; rintro e w' ⟨rfl, rfl⟩))
    go_ret
    exact ⟨rfl, rfl⟩
  | false =>
    rw [Bool.false_or]
    go_enter Tryd.func19, Tryd.ntmps19
    go_wp2_with (first | (go_at_call 13; refine (refplace_any _ _).mono ?_; rintro e w' ⟨rfl, rfl⟩) | (go_at_call 17; refine (refin_any _ _ _ _).mono ?_; rintro e w' ⟨rfl, rfl⟩))
    go_ret
    exact ⟨rfl, rfl⟩

/-- 2 so many times together. -/
def pw : Nat → Int
  | 0 => 1
  | k + 1 => 2 * pw k
theorem pw_bd (k : Nat) (h : k ≤ 16) : 1 ≤ pw k ∧ pw k ≤ 65536 := by
  have all : ∀ j, j < 17 → 1 ≤ pw j ∧ pw j ≤ 65536 := by decide
  exact all k (by omega)
/-- The table of starts lies where the program keeps it. -/
def Held (w : World) : Prop := (∀ j, j < 16 → w.cell? ⟨0, j, none⟩ = some (.int .i64 (pw j))) ∧ 0 < w.heap.size
theorem Held.below {w w' : World} (h : Held w) (hb : Below w.heap.size w w') : Held w' :=
  ⟨fun j hj => (hb.cell (p := ⟨0, j, none⟩) h.2).trans (h.1 j hj), Nat.lt_of_lt_of_le h.2 hb.size⟩

/-- The place of a and so many times 2. -/
def startF (a i : Int) : Int := if i < 0 ∨ 16 ≤ i then a % 65536 else (a % 65536 + pw i.toNat) % 65536
theorem start_any (a i : Int) (w : World) (h : Held w) : Calls Tryd.prog 20 #[.int .i64 a, .int .i64 i] w fun e w' => e = .returned (.int .i64 (startF a i)) ∧ Below w.heap.size w w' := by
  by_cases c1 : i < 0
  · have e1 : startF a i = a % 65536 := by simp [startF, c1]
    rw [e1]; clear e1
    go_enter Tryd.func20, Tryd.ntmps20
    go_wp2_with (go_at_call 12; refine (place_any _ _).mono ?_; rintro e w' ⟨rfl, rfl⟩)
    go_ret
    exact ⟨rfl, Below.refl _ _⟩
  · by_cases c2 : 16 ≤ i
    · have e1 : startF a i = a % 65536 := by simp [startF, c2]
      rw [e1]; clear e1
      go_enter Tryd.func20, Tryd.ntmps20
      go_wp2_with (go_at_call 12; refine (place_any _ _).mono ?_; rintro e w' ⟨rfl, rfl⟩)
      go_ret
      exact ⟨rfl, Below.refl _ _⟩
    · obtain ⟨k, rfl⟩ := Int.eq_ofNat_of_zero_le (show 0 ≤ i by omega)
      have e1 : startF a (k : Int) = (a % 65536 + pw k) % 65536 := by
        unfold startF
        rw [if_neg (by omega), Int.toNat_natCast]
      rw [e1]; clear e1
      have hc := h.1 k (by omega)
      have hb := pw_bd k (by omega)
      obtain ⟨hb1, hb2⟩ := hb
      obtain ⟨h1, h2⟩ := mod_bd a
      have hk : (k : Int) < 16 := by omega
      clear h
      go_enter Tryd.func20, Tryd.ntmps20
      go_wp2
      go_quiet ((go_at_call 12; exact Calls.quiet_of_same ((place_any _ _).mono fun _ _ h => ⟨h.1, h.2.symm⟩)))
      go_wp2
      go_ret
      exact ⟨rfl, rfl, rfl, rfl, Nat.le_refl _, fun _ _ => rfl⟩

theorem refstart_any (a i : Int) (w : World) : Calls Tryd.prog 21 #[.int .i64 a, .int .i64 i] w fun e w' => e = .returned (.int .i64 (startF a i)) ∧ w = w' := by
  by_cases c1 : i < 0
  · have e1 : startF a i = a % 65536 := by simp [startF, c1]
    rw [e1]; clear e1
    go_enter Tryd.func21, Tryd.ntmps21
    go_wp2_with (go_at_call 13; refine (refplace_any _ _).mono ?_; rintro e w' ⟨rfl, rfl⟩)
    go_ret
    exact ⟨rfl, rfl⟩
  · by_cases c2 : 16 ≤ i
    · have e1 : startF a i = a % 65536 := by simp [startF, c2]
      rw [e1]; clear e1
      go_enter Tryd.func21, Tryd.ntmps21
      go_wp2_with (go_at_call 13; refine (refplace_any _ _).mono ?_; rintro e w' ⟨rfl, rfl⟩)
      go_ret
      exact ⟨rfl, rfl⟩
    · obtain ⟨k, rfl⟩ := Int.eq_ofNat_of_zero_le (show 0 ≤ i by omega)
      have e1 : startF a (k : Int) = (a % 65536 + pw k) % 65536 := by
        unfold startF
        rw [if_neg (by omega), Int.toNat_natCast]
      rw [e1]; clear e1
      obtain ⟨h1, h2⟩ := mod_bd a
      have hk : (k : Int) < 16 := by omega
      go_enter Tryd.func21, Tryd.ntmps21
      go_wp2
      go_loop [5, 6] (fun n i => ∃ j : Nat, j ≤ k ∧ i = .int .i64 j ∧ n = .int .i64 (pw j)) (fun _ i => k - (intOf i).toNat)
      case atStart => exact ⟨0, Nat.zero_le _, rfl, rfl⟩
      case round =>
        obtain ⟨j, hj, rfl, rfl⟩ := hrel
        have hb := pw_bd j (by omega)
        obtain ⟨hb1, hb2⟩ := hb
        by_cases hlt : j < k
        · have e : 2 * pw j = pw (j + 1) := rfl
          go_wp2
          go_round
          case rel => exact ⟨j + 1, by omega, by go_num, rfl⟩
          case measure => simp [intOf]; omega
        · obtain rfl : j = k := by omega
          go_wp2_with (go_at_call 13; refine (refplace_any _ _).mono ?_; rintro e w' ⟨rfl, rfl⟩)
          go_ret
          refine ⟨?_, rfl⟩
          simp
end Go.Proofs.YtfbkhendpbhfcaaDoor
