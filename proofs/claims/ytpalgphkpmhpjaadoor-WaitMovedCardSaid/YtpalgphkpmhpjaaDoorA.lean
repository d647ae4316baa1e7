/-
  The small functions of package wait and of its reference: what each call returns.
-/
import Derived.Test.YtpalgphkpmhpjaaDoorChecked
import Derived.WalkKit
import Derived.WalkLawsBesides
import Derived.Lib.Hide
import Derived.RangeFuncNested
namespace Go.Proofs.YtpalgphkpmhpjaaDoor
open Go.RowKit

/-- The table of waits lies where the program keeps it. -/
def Held (w : World) : Prop :=
  w.cell? ⟨0, 0, none⟩ = some (.int .i64 1) ∧ w.cell? ⟨0, 1, none⟩ = some (.int .i64 2) ∧ w.cell? ⟨0, 2, none⟩ = some (.int .i64 4) ∧ 0 < w.heap.size

theorem Held.below {w w' : World} (h : Held w) (hb : Below w.heap.size w w') : Held w' :=
  ⟨(hb.cell (p := ⟨0, 0, none⟩) h.2.2.2).trans h.1, (hb.cell (p := ⟨0, 1, none⟩) h.2.2.2).trans h.2.1, (hb.cell (p := ⟨0, 2, none⟩) h.2.2.2).trans h.2.2.1, Nat.lt_of_lt_of_le h.2.2.2 hb.size⟩

def waitF (t : Int) : Int := if t < 1 then 0 else if t = 1 then 1 else if t = 2 then 2 else 4

theorem waitF_lt {t : Int} (h : t < 1) : waitF t = 0 := by simp [waitF, h]
theorem waitF_one : waitF 1 = 1 := rfl
theorem waitF_two : waitF 2 = 2 := rfl
theorem waitF_more {t : Int} (h : 3 ≤ t) : waitF t = 4 := by
  unfold waitF
  rw [if_neg (by omega), if_neg (by omega), if_neg (by omega)]
theorem waitF_bd (t : Int) : 0 ≤ waitF t ∧ waitF t ≤ 4 := by
  unfold waitF
  split
  · omega
  · split
    · omega
    · split <;> omega

theorem wait_any (t : Int) (w : World) (h : Held w) : Calls Tryd.prog 8 #[.int .i64 t] w fun e w' => e = .returned (.int .i64 (waitF t)) ∧ w = w' := by
  obtain ⟨h0, h1, h2, -⟩ := h
  by_cases c1 : t < 1
  · rw [waitF_lt c1]
    go_enter Tryd.func8, Tryd.ntmps8
    go_wp2
    go_ret
    exact ⟨rfl, rfl⟩
  · by_cases c2 : t = 1
    · subst c2
      rw [waitF_one]
      go_enter Tryd.func8, Tryd.ntmps8
      go_wp2
      go_ret
      exact ⟨rfl, rfl⟩
    · by_cases c3 : t = 2
      · subst c3
        rw [waitF_two]
        go_enter Tryd.func8, Tryd.ntmps8
        go_wp2
        go_ret
        exact ⟨rfl, rfl⟩
      · by_cases c5 : t = 3
        · subst c5
          rw [waitF_more (Int.le_refl 3)]
          go_enter Tryd.func8, Tryd.ntmps8
          go_wp2
          go_ret
          exact ⟨rfl, rfl⟩
        · have c4 : 4 ≤ t := by omega
          rw [waitF_more (by omega)]
          clear c1 c2 c3 c5
          go_enter Tryd.func8, Tryd.ntmps8
          go_wp2
          go_ret
          exact ⟨rfl, rfl⟩

theorem refwait_any (t : Int) (w : World) : Calls Tryd.prog 9 #[.int .i64 t] w fun e w' => e = .returned (.int .i64 (waitF t)) ∧ w = w' := by
  by_cases c1 : t < 1
  · rw [waitF_lt c1]
    go_enter Tryd.func9, Tryd.ntmps9
    go_wp2
    go_ret
    exact ⟨rfl, rfl⟩
  · by_cases c2 : t = 1
    · subst c2
      rw [waitF_one]
      go_enter Tryd.func9, Tryd.ntmps9
      go_wp2
      go_ret
      exact ⟨rfl, rfl⟩
    · by_cases c3 : t = 2
      · subst c3
        rw [waitF_two]
        go_enter Tryd.func9, Tryd.ntmps9
        go_wp2
        go_ret
        exact ⟨rfl, rfl⟩
      · have c4 : 3 ≤ t := by omega
        rw [waitF_more c4]
        clear c1 c2 c3
        go_enter Tryd.func9, Tryd.ntmps9
        go_wp2
        go_ret
        exact ⟨rfl, rfl⟩

theorem more_any (s n : Int) (w : World) : Calls Tryd.prog 21 #[.int .i64 s, .int .i64 n] w fun e w' => e = .returned (.int .i64 (wrap64 (n - s))) ∧ w = w' := by
  go_enter Tryd.func21, Tryd.ntmps21
  go_wp2
  go_ret
  exact ⟨rfl, rfl⟩

/-- The closure that 'passed' hands back, at its captured ticks. -/
theorem passed1_any (k : Int) (b : Nat) (m : Int) (w : World) (hc : w.cell? ⟨b, 0, none⟩ = some (.int .i64 m)) :
    Calls Tryd.prog 22 #[.int .i64 k, .pointer (some ⟨b, 0, none⟩)] w fun e w' => e = .returned (.bool (decide (k ≤ m))) ∧ w = w' := by
  by_cases c : k ≤ m
  · rw [decide_eq_true c]
    go_enter Tryd.func22, Tryd.ntmps22
    go_wp2
    go_ret
    exact ⟨rfl, rfl⟩
  · rw [decide_eq_false c]
    go_enter Tryd.func22, Tryd.ntmps22
    go_wp2
    go_ret
    exact ⟨rfl, rfl⟩

theorem passed_any (s n : Int) (w : World) : Calls Tryd.prog 19 #[.int .i64 s, .int .i64 n] w fun e w' =>
    e = .returned (.func (.func 22) #[] #[.pointer (some ⟨w.heap.size, 0, none⟩)]) ∧ w.alloc (.cells #[.int .i64 (wrap64 (n - s))] 3) = w' := by
  go_enter Tryd.func19, Tryd.ntmps19
  go_wp2_with (go_at_call 21; refine (more_any _ _ _).mono ?_; rintro e w' ⟨rfl, rfl⟩)
  go_ret
  exact ⟨rfl, rfl⟩

def dueB (s t n : Int) : Bool := decide (1 ≤ t) && decide (t < 3) && decide (waitF t ≤ wrap64 (n - s))
def overB (s t n : Int) : Bool := decide (3 ≤ t) && decide (4 ≤ wrap64 (n - s))
def leftF (s t n : Int) : Int := max (wrap64 (waitF t - wrap64 (n - s))) 0

theorem dueB_false {s t n : Int} (h : ¬ (1 ≤ t ∧ t < 3)) : dueB s t n = false := by
  unfold dueB
  by_cases c1 : 1 ≤ t
  · have c2 : ¬ t < 3 := fun c => h ⟨c1, c⟩
    simp [c2]
  · simp [c1]

theorem new_cell (w : World) (v : Value) (t : TypeId) : (w.alloc (.cells #[v] t)).cell? ⟨w.heap.size, 0, none⟩ = some v := by
  have h := World.alloc_heap_new w (.cells #[v] t)
  unfold World.cell?
  rw [h]
  rfl

theorem due_any (s t n : Int) (w : World) (h : Held w) : Calls Tryd.prog 10 #[.int .i64 s, .int .i64 t, .int .i64 n] w fun e w' => e = .returned (.bool (dueB s t n)) ∧ Below w.heap.size w w' := by
  by_cases c1 : 1 ≤ t
  · by_cases c2 : t < 3
    · have e : dueB s t n = decide (waitF t ≤ wrap64 (n - s)) := by simp [dueB, c1, c2]
      rw [e]; clear e
      have hb : Below w.heap.size w (w.alloc (.cells #[.int .i64 (wrap64 (n - s))] 3)) := (Below.refl _ w).alloc (Nat.le_refl _) _
      have H := Lib.hid (h.below hb)
      have HC := Lib.hid (new_cell w (.int .i64 (wrap64 (n - s))) 3)
      clear h
      go_enter Tryd.func10, Tryd.ntmps10
      go_wp2_with (first | (go_at_call 19; refine (passed_any _ _ _).mono ?_; rintro e w' ⟨rfl, rfl⟩) | (go_at_call 8; refine (wait_any _ _ H.out).mono ?_; rintro e w' ⟨rfl, rfl⟩) | (go_at_call 22; refine (passed1_any _ _ _ _ HC.out).mono ?_; rintro e w' ⟨rfl, rfl⟩))
      go_ret
      exact ⟨rfl, hb⟩
    · rw [dueB_false (by omega)]
      go_enter Tryd.func10, Tryd.ntmps10
      go_wp2
      go_ret
      exact ⟨rfl, Below.refl _ _⟩
  · rw [dueB_false (by omega)]
    go_enter Tryd.func10, Tryd.ntmps10
    go_wp2
    go_ret
    exact ⟨rfl, Below.refl _ _⟩

theorem over_any (s t n : Int) (w : World) (h : Held w) : Calls Tryd.prog 12 #[.int .i64 s, .int .i64 t, .int .i64 n] w fun e w' => e = .returned (.bool (overB s t n)) ∧ Below w.heap.size w w' := by
  by_cases c1 : 3 ≤ t
  · have e : overB s t n = decide (waitF t ≤ wrap64 (n - s)) := by simp [overB, c1, waitF_more c1]
    rw [e]; clear e
    have hb : Below w.heap.size w (w.alloc (.cells #[.int .i64 (wrap64 (n - s))] 3)) := (Below.refl _ w).alloc (Nat.le_refl _) _
    have H := Lib.hid (h.below hb)
    have HC := Lib.hid (new_cell w (.int .i64 (wrap64 (n - s))) 3)
    clear h
    go_enter Tryd.func12, Tryd.ntmps12
    go_wp2_with (first | (go_at_call 19; refine (passed_any _ _ _).mono ?_; rintro e w' ⟨rfl, rfl⟩) | (go_at_call 8; refine (wait_any _ _ H.out).mono ?_; rintro e w' ⟨rfl, rfl⟩) | (go_at_call 22; refine (passed1_any _ _ _ _ HC.out).mono ?_; rintro e w' ⟨rfl, rfl⟩))
    go_ret
    exact ⟨rfl, hb⟩
  · have e : overB s t n = false := by simp [overB, c1]
    rw [e]; clear e
    go_enter Tryd.func12, Tryd.ntmps12
    go_wp2
    go_ret
    exact ⟨rfl, Below.refl _ _⟩

theorem refdue_any (s t n : Int) (w : World) : Calls Tryd.prog 11 #[.int .i64 s, .int .i64 t, .int .i64 n] w fun e w' => e = .returned (.bool (dueB s t n)) ∧ w = w' := by
  by_cases c1 : t = 1
  · subst c1
    have e : dueB s 1 n = decide (waitF 1 ≤ wrap64 (n - s)) := by simp [dueB]
    rw [e]; clear e
    go_enter Tryd.func11, Tryd.ntmps11
    go_wp2_with (go_at_call 9; refine (refwait_any _ _).mono ?_; rintro e w' ⟨rfl, rfl⟩)
    go_ret
    exact ⟨rfl, rfl⟩
  · by_cases c2 : t = 2
    · subst c2
      have e : dueB s 2 n = decide (waitF 2 ≤ wrap64 (n - s)) := by simp [dueB]
      rw [e]; clear e
      go_enter Tryd.func11, Tryd.ntmps11
      go_wp2_with (go_at_call 9; refine (refwait_any _ _).mono ?_; rintro e w' ⟨rfl, rfl⟩)
      go_ret
      exact ⟨rfl, rfl⟩
    · rw [dueB_false (by omega)]
      have d1 : (t == 1) = false := by simp [c1]
      have d2 : (t == 2) = false := by simp [c2]
      clear c1 c2
      go_enter Tryd.func11, Tryd.ntmps11
      go_wp2
      go_ret
      exact ⟨rfl, rfl⟩

theorem refover_any (s t n : Int) (w : World) : Calls Tryd.prog 13 #[.int .i64 s, .int .i64 t, .int .i64 n] w fun e w' => e = .returned (.bool (overB s t n)) ∧ w = w' := by
  by_cases c1 : 3 ≤ t
  · have e : overB s t n = decide (4 ≤ wrap64 (n - s)) := by simp [overB, c1]
    rw [e]; clear e
    go_enter Tryd.func13, Tryd.ntmps13
    go_wp2
    go_ret
    exact ⟨rfl, rfl⟩
  · have e : overB s t n = false := by simp [overB, c1]
    rw [e]; clear e
    go_enter Tryd.func13, Tryd.ntmps13
    go_wp2
    go_ret
    exact ⟨rfl, rfl⟩

theorem leftF_neg {s t n : Int} (h : wrap64 (waitF t - wrap64 (n - s)) < 0) : leftF s t n = 0 := by unfold leftF; omega
theorem leftF_pos {s t n : Int} (h : ¬ wrap64 (waitF t - wrap64 (n - s)) < 0) : leftF s t n = wrap64 (waitF t - wrap64 (n - s)) := by unfold leftF; omega

theorem left_any (s t n : Int) (w : World) (h : Held w) : Calls Tryd.prog 16 #[.int .i64 s, .int .i64 t, .int .i64 n] w fun e w' => e = .returned (.int .i64 (leftF s t n)) ∧ w = w' := by
  have H := Lib.hid h
  clear h
  by_cases c : wrap64 (waitF t - wrap64 (n - s)) < 0
  · rw [leftF_neg c]
    go_enter Tryd.func16, Tryd.ntmps16
    go_wp2_with (first | (go_at_call 21; refine (more_any _ _ _).mono ?_; rintro e w' ⟨rfl, rfl⟩) | (go_at_call 8; refine (wait_any _ _ H.out).mono ?_; rintro e w' ⟨rfl, rfl⟩))
    go_ret
    exact ⟨rfl, rfl⟩
  · rw [leftF_pos c]
    go_enter Tryd.func16, Tryd.ntmps16
    go_wp2_with (first | (go_at_call 21; refine (more_any _ _ _).mono ?_; rintro e w' ⟨rfl, rfl⟩) | (go_at_call 8; refine (wait_any _ _ H.out).mono ?_; rintro e w' ⟨rfl, rfl⟩))
    go_ret
    exact ⟨rfl, rfl⟩

theorem refleft_any (s t n : Int) (w : World) : Calls Tryd.prog 17 #[.int .i64 s, .int .i64 t, .int .i64 n] w fun e w' => e = .returned (.int .i64 (leftF s t n)) ∧ w = w' := by
  by_cases c : wrap64 (waitF t - wrap64 (n - s)) < 0
  · rw [leftF_neg c]
    have c' : wrap64 (waitF t - wrap64 (n - s)) ≤ 0 := by omega
    go_enter Tryd.func17, Tryd.ntmps17
    go_wp2_with (go_at_call 9; refine (refwait_any _ _).mono ?_; rintro e w' ⟨rfl, rfl⟩)
    go_ret
    exact ⟨rfl, rfl⟩
  · rw [leftF_pos c]
    by_cases c1 : wrap64 (waitF t - wrap64 (n - s)) = 0
    · rw [c1]
      go_enter Tryd.func17, Tryd.ntmps17
      go_wp2_with (go_at_call 9; refine (refwait_any _ _).mono ?_; rintro e w' ⟨rfl, rfl⟩)
      go_ret
      exact ⟨rfl, rfl⟩
    · have c' : ¬ wrap64 (waitF t - wrap64 (n - s)) ≤ 0 := by omega
      clear c c1
      go_enter Tryd.func17, Tryd.ntmps17
      go_wp2_with (go_at_call 9; refine (refwait_any _ _).mono ?_; rintro e w' ⟨rfl, rfl⟩)
      go_ret
      exact ⟨rfl, rfl⟩

/-- The reference's plan. -/
theorem refplan_any (b : Int) (w : World) : Calls Tryd.prog 15 #[.int .i64 b] w fun e w' => e = .returned (.agg #[.int .i64 b, .int .i64 (wrap64 (b + 1)), .int .i64 (wrap64 (b + 3)), .int .i64 (wrap64 (b + 7))]) ∧ Below w.heap.size w w' := by
  go_enter Tryd.func15, Tryd.ntmps15
  go_wp2
  exact bodyPost_ret (v := .agg #[.int .i64 b, .int .i64 (wrap64 (b + 1)), .int .i64 (wrap64 (b + 3)), .int .i64 (wrap64 (b + 7))]) (by simp [results, Tryd.results15, go_sem]) rfl ⟨rfl, (Below.refl _ _).alloc (Nat.le_refl _) _⟩
end Go.Proofs.YtpalgphkpmhpjaaDoor
