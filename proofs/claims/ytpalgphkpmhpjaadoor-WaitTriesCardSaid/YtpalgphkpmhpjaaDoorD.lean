/-
  The laws WaitTells, WaitTries, WaitLeft, WaitMoved: each walk, with the plain facts it rests on.
-/
import Derived.Test.YtpalgphkpmhpjaaDoorC
namespace Go.Proofs.YtpalgphkpmhpjaaDoor
open Go.RowKit Go.Shelf
attribute [local go_sem] run_eq_four

set_option maxRecDepth 100000 in
set_option maxHeartbeats 2000000 in
theorem tells_walk (s t n : Int) (w0 : World) (w : World) (h : Good w0 w) : Calls Tryd.prog 3 #[.int .i64 s, .int .i64 t, .int .i64 n] w fun e w' => e = .returned (.bool true) ∧ Good w0 w' := by
  go_enter Tryd.func3, Tryd.ntmps3
  go_wp2_with (first
    | (go_at_call 8; refine (wait_g w0 _ _ (by assumption)).mono ?_; rintro e w' ⟨rfl, hg⟩)
    | (go_at_call 9; refine (refwait_g w0 _ _ (by assumption)).mono ?_; rintro e w' ⟨rfl, hg⟩)
    | (go_at_call 10; refine (due_g w0 _ _ _ _ (by assumption)).mono ?_; rintro e w' ⟨rfl, hg⟩)
    | (go_at_call 11; refine (refdue_g w0 _ _ _ _ (by assumption)).mono ?_; rintro e w' ⟨rfl, hg⟩)
    | (go_at_call 12; refine (over_g w0 _ _ _ _ (by assumption)).mono ?_; rintro e w' ⟨rfl, hg⟩)
    | (go_at_call 13; refine (refover_g w0 _ _ _ _ (by assumption)).mono ?_; rintro e w' ⟨rfl, hg⟩)
    | (go_at_call 14; refine (plan_g w0 _ _ (by assumption)).mono ?_; rintro e w' ⟨rfl, hg⟩)
    | (go_at_call 15; refine (refplan_g w0 _ _ (by assumption)).mono ?_; rintro e w' ⟨rfl, hg⟩)
    | (go_at_call 16; refine (left_g w0 _ _ _ _ (by assumption)).mono ?_; rintro e w' ⟨rfl, hg⟩)
    | (go_at_call 17; refine (refleft_g w0 _ _ _ _ (by assumption)).mono ?_; rintro e w' ⟨rfl, hg⟩)
    | (go_at_call 18; refine (wakes_g w0 _ (by assumption)).mono ?_; rintro e w' ⟨rfl, hg⟩))
  go_ret
  exact ⟨rfl, by assumption⟩

theorem dueB_over {s t n : Int} (h : dueB s t n = true) : overB s t n = false := by
  unfold dueB at h
  unfold overB
  have : ¬ 3 ≤ t := by
    intro h3
    have : ¬ t < 3 := by omega
    simp [this] at h
  simp [this]
theorem dueB_tries {s t n : Int} (h : dueB s t n = true) : t = 1 ∨ t = 2 := by
  unfold dueB at h
  simp only [Bool.and_eq_true, decide_eq_true_eq] at h
  omega
theorem overB_tries {s t n : Int} (h : overB s t n = true) : 3 ≤ t := by
  unfold overB at h
  simp only [Bool.and_eq_true, decide_eq_true_eq] at h
  exact h.1

set_option maxRecDepth 100000 in
set_option maxHeartbeats 2000000 in
theorem tries_walk (s t n : Int) (w0 : World) (w : World) (h : Good w0 w) : Calls Tryd.prog 7 #[.int .i64 s, .int .i64 t, .int .i64 n] w fun e w' => e = .returned (.bool true) ∧ Good w0 w' := by
  by_cases hd : dueB s t n = true
  · have ho := dueB_over hd
    rcases dueB_tries hd with rfl | rfl
    all_goals
      go_enter Tryd.func7, Tryd.ntmps7
      go_wp2_with (first
        | (go_at_call 8; refine (wait_g w0 _ _ (by assumption)).mono ?_; rintro e w' ⟨rfl, hg⟩)
        | (go_at_call 10; refine (due_g w0 _ _ _ _ (by assumption)).mono ?_; rintro e w' ⟨rfl, hg⟩)
        | (go_at_call 12; refine (over_g w0 _ _ _ _ (by assumption)).mono ?_; rintro e w' ⟨rfl, hg⟩)
        | (go_at_call 18; refine (wakes_g w0 _ (by assumption)).mono ?_; rintro e w' ⟨rfl, hg⟩))
      go_ret
      exact ⟨rfl, by assumption⟩
  · have hd' : dueB s t n = false := by simpa using hd
    clear hd
    by_cases ho : overB s t n = true
    · have h3 := overB_tries ho
      go_enter Tryd.func7, Tryd.ntmps7
      go_wp2_with (first
        | (go_at_call 8; refine (wait_g w0 _ _ (by assumption)).mono ?_; rintro e w' ⟨rfl, hg⟩)
        | (go_at_call 10; refine (due_g w0 _ _ _ _ (by assumption)).mono ?_; rintro e w' ⟨rfl, hg⟩)
        | (go_at_call 12; refine (over_g w0 _ _ _ _ (by assumption)).mono ?_; rintro e w' ⟨rfl, hg⟩)
        | (go_at_call 18; refine (wakes_g w0 _ (by assumption)).mono ?_; rintro e w' ⟨rfl, hg⟩))
      go_ret
      exact ⟨rfl, by assumption⟩
    · have ho' : overB s t n = false := by simpa using ho
      clear ho
      by_cases h1 : 1 ≤ t
      · go_enter Tryd.func7, Tryd.ntmps7
        go_wp2_with (first
          | (go_at_call 8; refine (wait_g w0 _ _ (by assumption)).mono ?_; rintro e w' ⟨rfl, hg⟩)
          | (go_at_call 10; refine (due_g w0 _ _ _ _ (by assumption)).mono ?_; rintro e w' ⟨rfl, hg⟩)
          | (go_at_call 12; refine (over_g w0 _ _ _ _ (by assumption)).mono ?_; rintro e w' ⟨rfl, hg⟩)
          | (go_at_call 18; refine (wakes_g w0 _ (by assumption)).mono ?_; rintro e w' ⟨rfl, hg⟩))
        go_ret
        exact ⟨rfl, by assumption⟩
      · have hw : waitF t = 0 := waitF_lt (by omega)
        go_enter Tryd.func7, Tryd.ntmps7
        go_wp2_with (first
          | (go_at_call 8; refine (wait_g w0 _ _ (by assumption)).mono ?_; rintro e w' ⟨rfl, hg⟩)
          | (go_at_call 10; refine (due_g w0 _ _ _ _ (by assumption)).mono ?_; rintro e w' ⟨rfl, hg⟩)
          | (go_at_call 12; refine (over_g w0 _ _ _ _ (by assumption)).mono ?_; rintro e w' ⟨rfl, hg⟩)
          | (go_at_call 18; refine (wakes_g w0 _ (by assumption)).mono ?_; rintro e w' ⟨rfl, hg⟩))
        go_ret
        exact ⟨rfl, by assumption⟩
end Go.Proofs.YtpalgphkpmhpjaaDoor
