/-
  Which numbers are whole ones of at most a quarter; which points are a place's; At of what is no place.
-/
import Derived.Test.YtaaonafokkdadaaG
namespace Go.Proofs.Ytaaonafokkdadaa
open Go Go.RowKit Go.Shelf
attribute [local go_sem] Oper.semAt_some run_store_complex

theorem quarter_Fl : Fl 4670232813583204352 16384 := by have := fl_Fl 16384 (by decide); rwa [bits_quarter] at this
theorem zero_Fl : Fl 0 0 := by have := fl_Fl 0 (by decide); rwa [bits_zero] at this
theorem cmp_lt {x y : Int} (h : x < y) : compare x y = .lt := by
  show compareOfLessAndEq x y = _
  unfold compareOfLessAndEq
  rw [if_pos h]
theorem cmp_eq {x y : Int} (h : x = y) : compare x y = .eq := by
  show compareOfLessAndEq x y = _
  unfold compareOfLessAndEq
  rw [if_neg (by omega), if_pos h]
theorem cmp_gt {x y : Int} (h : y < x) : compare x y = .gt := by
  show compareOfLessAndEq x y = _
  unfold compareOfLessAndEq
  rw [if_neg (by omega), if_neg (by omega)]
/-- How two words that are whole numbers stand to each other, as the walk asks it. -/
theorem ord {a b : Nat} {x y : Int} (ha : Fl a x) (hb : Fl b y) : FloatKind.f64.format.order a b = some (compare x y) := ha.order hb

set_option maxHeartbeats 1000000 in
theorem whole_any (b : Nat) (n : Int) (h : Fl b n) (hn : n.natAbs < 9007199254740992) (w : World) : Calls Try.prog 26 #[.float .f64 b] w fun e w' => e = .returned (.bool (decide (n.natAbs ≤ 16384))) ∧ w = w' := by
  have HF := Lib.hid h
  clear h
  by_cases c : n.natAbs ≤ 16384
  · rw [decide_eq_true c]
    by_cases c2 : n.natAbs = 16384
    · go_enter Try.func26, Try.ntmps26
      go_wp2_with (first
        | (go_at_call 27; refine (abs_any b n HF.out hn _).mono ?_; rintro e w' ⟨⟨r, rfl, hr⟩, rfl⟩; have ho := ord hr quarter_Fl; rw [cmp_eq (by omega)] at ho; clear hr)
        | (go_at_call 30; refine (trunc_any b n HF.out hn _).mono ?_; rintro e w' ⟨⟨r2, rfl, hr2⟩, rfl⟩; have ho2 := ord HF.out hr2; rw [cmp_eq rfl] at ho2; clear hr2))
      go_ret
      exact ⟨rfl, rfl⟩
    · go_enter Try.func26, Try.ntmps26
      go_wp2_with (first
        | (go_at_call 27; refine (abs_any b n HF.out hn _).mono ?_; rintro e w' ⟨⟨r, rfl, hr⟩, rfl⟩; have ho := ord hr quarter_Fl; rw [cmp_lt (by omega)] at ho; clear hr)
        | (go_at_call 30; refine (trunc_any b n HF.out hn _).mono ?_; rintro e w' ⟨⟨r2, rfl, hr2⟩, rfl⟩; have ho2 := ord HF.out hr2; rw [cmp_eq rfl] at ho2; clear hr2))
      go_ret
      exact ⟨rfl, rfl⟩
  · rw [decide_eq_false c]
    go_enter Try.func26, Try.ntmps26
    go_wp2_with (first
      | (go_at_call 27; refine (abs_any b n HF.out hn _).mono ?_; rintro e w' ⟨⟨r, rfl, hr⟩, rfl⟩; have ho := ord hr quarter_Fl; rw [cmp_gt (by omega)] at ho; clear hr))
    go_ret
    exact ⟨rfl, rfl⟩

/-- A place's point, of whole numbers. -/
def rightF (x y : Int) : Bool := decide (x.natAbs + y.natAbs = 16384)
set_option maxHeartbeats 1000000 in
theorem right_yes (a b : Nat) (x y : Int) (ha : Fl a x) (hb : Fl b y) (h : x.natAbs + y.natAbs = 16384) (w : World) : Calls Try.prog 12 #[.complex .f64 a b] w fun e w' => e = .returned (.bool true) ∧ w = w' := by
  have HA := Lib.hid ha
  have HB := Lib.hid hb
  have d1 : decide (x.natAbs ≤ 16384) = true := decide_eq_true (by omega)
  have d2 : decide (y.natAbs ≤ 16384) = true := decide_eq_true (by omega)
  clear ha hb
  go_enter Try.func12, Try.ntmps12
  go_wp2_with fail
  refine (whole_any a x HA.out (by omega) _).mono ?_; rintro e w' ⟨rfl, rfl⟩
  rw [d1]
  go_wp2_with fail
  refine (whole_any b y HB.out (by omega) _).mono ?_; rintro e w' ⟨rfl, rfl⟩
  rw [d2]
  go_wp2_with fail
  refine (abs_any a x HA.out (by omega) _).mono ?_; rintro e w' ⟨⟨r, rfl, hr⟩, rfl⟩
  go_wp2_with fail
  refine (abs_any b y HB.out (by omega) _).mono ?_; rintro e w' ⟨⟨r2, rfl, hr2⟩, rfl⟩
  obtain ⟨s, hs, fs⟩ := hr.add hr2 (by omega)
  have hadd := fun w => run_float_arith (P := Try.prog) w .add 22 .f64 r r2 s hs
  have ho := ord fs quarter_Fl
  rw [cmp_eq (by omega)] at ho
  clear hs fs hr hr2
  go_wp2
  go_ret
  exact ⟨rfl, rfl⟩
end Go.Proofs.Ytaaonafokkdadaa
