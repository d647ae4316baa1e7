/-
  The laws WaitLeft and WaitMoved: each walk, with the plain facts it rests on.
-/
import Derived.Test.YtpalgphkpmhpjaaDoorC
namespace Go.Proofs.YtpalgphkpmhpjaaDoor
open Go.RowKit Go.Shelf
attribute [local go_sem] run_eq_four

theorem wrap64_id {x : Int} (h1 : -9223372036854775808 ≤ x) (h2 : x ≤ 9223372036854775807) : wrap64 x = x := by unfold wrap64; omega
theorem waitF_step (t : Int) (h : 1 ≤ t) : waitF t ≤ waitF (t + 1) := by
  by_cases h1 : t = 1
  · subst h1; decide +kernel
  · by_cases h2 : t = 2
    · subst h2; decide +kernel
    · rw [waitF_more (t := t) (by omega), waitF_more (t := t + 1) (by omega)]; exact Int.le_refl _
theorem waitF_pos {t : Int} (h : 1 ≤ t) : 1 ≤ waitF t := by
  by_cases h1 : t = 1
  · subst h1; decide +kernel
  · by_cases h2 : t = 2
    · subst h2; decide +kernel
    · rw [waitF_more (t := t) (by omega)]; omega
theorem leftF_far {s t f : Int} (h1 : 0 ≤ f) (h2 : f ≤ 1099511627776) : leftF s t (s + f) = max (waitF t - f) 0 := by
  have := waitF_bd t
  unfold leftF
  rw [show s + f - s = f from by omega, wrap64_id (x := f) (by omega) (by omega), wrap64_id (by omega) (by omega)]
theorem leftF_none {s t f : Int} (h1 : 0 ≤ f) (h2 : f ≤ 1099511627776) (h3 : waitF t ≤ f) : leftF s t (s + f) = 0 := by
  rw [leftF_far h1 h2]; omega
theorem leftF_some {s t f : Int} (h1 : 0 ≤ f) (h2 : f ≤ 1099511627776) (h3 : f < waitF t) : leftF s t (s + f) = waitF t - f := by
  rw [leftF_far h1 h2]; omega
theorem leftF_now {s t : Int} : leftF s t s = waitF t := by
  have := waitF_bd t
  unfold leftF
  rw [Int.sub_self, wrap64_id (x := 0) (by omega) (by omega), wrap64_id (by omega) (by omega)]; omega
theorem dueB_far {s t f : Int} (h1 : 0 ≤ f) (h2 : f ≤ 1099511627776) (h3 : 1 ≤ t) (h4 : t < 3) : dueB s t (s + f) = decide (waitF t ≤ f) := by
  unfold dueB
  rw [show s + f - s = f from by omega, wrap64_id (x := f) (by omega) (by omega)]
  simp [h3, h4]
theorem overB_far {s t f : Int} (h1 : 0 ≤ f) (h2 : f ≤ 1099511627776) (h3 : 3 ≤ t) : overB s t (s + f) = decide (waitF t ≤ f) := by
  unfold overB
  rw [show s + f - s = f from by omega, wrap64_id (x := f) (by omega) (by omega), waitF_more h3]
  simp [h3]
theorem overB_lt {s t n : Int} (h : t < 3) : overB s t n = false := by
  unfold overB
  have : ¬ 3 ≤ t := by omega
  simp [this]

set_option maxRecDepth 100000 in
set_option maxHeartbeats 4000000 in
theorem left_in (s t f : Int) (w0 : World) (w : World) (h : Good w0 w) (d0 : -1099511627776 ≤ s) (d1 : s ≤ 1099511627776) (d2 : 0 ≤ f) (d3 : f ≤ 1099511627776) (d4 : 1 ≤ t) (d5 : t ≤ 1099511627776) :
    Calls Tryd.prog 5 #[.int .i64 s, .int .i64 t, .int .i64 f] w fun e w' => e = .returned (.bool true) ∧ Good w0 w' := by
  have b1 := (waitF_bd t).1
  have b2 := (waitF_bd t).2
  have p1 := waitF_pos d4
  have p2 := waitF_step t d4
  have q1 := leftF_now (s := s) (t := t)
  by_cases k : waitF t ≤ f
  · have q2 := leftF_none (s := s) d2 d3 k
    have k1 : waitF t - f ≤ 0 := by omega
    by_cases k2 : t < 3
    · have q3 : dueB s t (s + f) = true := by rw [dueB_far d2 d3 d4 k2]; exact decide_eq_true k
      by_cases k3 : waitF t - f = 0
      · have k4 : f = waitF t := by omega
        subst k4
        clear k1 k3
        go_enter Tryd.func5, Tryd.ntmps5
        go_wp2_with (first
          | (go_at_call 8; refine (wait_g w0 _ _ (by assumption)).mono ?_; rintro e w' ⟨rfl, hg⟩)
          | (go_at_call 10; refine (due_g w0 _ _ _ _ (by assumption)).mono ?_; rintro e w' ⟨rfl, hg⟩)
          | (go_at_call 12; refine (over_g w0 _ _ _ _ (by assumption)).mono ?_; rintro e w' ⟨rfl, hg⟩)
          | (go_at_call 14; refine (plan_g w0 _ _ (by assumption)).mono ?_; rintro e w' ⟨rfl, hg⟩)
          | (go_at_call 16; refine (left_g w0 _ _ _ _ (by assumption)).mono ?_; rintro e w' ⟨rfl, hg⟩)
          | (go_at_call 18; refine (wakes_g w0 _ (by assumption)).mono ?_; rintro e w' ⟨rfl, hg⟩))
        go_ret
        exact ⟨rfl, by assumption⟩
      · have k4 : waitF t - f < 0 := by omega
        clear k3
        go_enter Tryd.func5, Tryd.ntmps5
        go_wp2_with (first
          | (go_at_call 8; refine (wait_g w0 _ _ (by assumption)).mono ?_; rintro e w' ⟨rfl, hg⟩)
          | (go_at_call 10; refine (due_g w0 _ _ _ _ (by assumption)).mono ?_; rintro e w' ⟨rfl, hg⟩)
          | (go_at_call 12; refine (over_g w0 _ _ _ _ (by assumption)).mono ?_; rintro e w' ⟨rfl, hg⟩)
          | (go_at_call 14; refine (plan_g w0 _ _ (by assumption)).mono ?_; rintro e w' ⟨rfl, hg⟩)
          | (go_at_call 16; refine (left_g w0 _ _ _ _ (by assumption)).mono ?_; rintro e w' ⟨rfl, hg⟩)
          | (go_at_call 18; refine (wakes_g w0 _ (by assumption)).mono ?_; rintro e w' ⟨rfl, hg⟩))
        go_ret
        exact ⟨rfl, by assumption⟩
    · have q3 : dueB s t (s + f) = false := dueB_false (by omega)
      have q4 : overB s t (s + f) = true := by rw [overB_far d2 d3 (by omega)]; exact decide_eq_true k
      clear k2
      by_cases k3 : waitF t - f = 0
      · have k4 : f = waitF t := by omega
        subst k4
        clear k1 k3
        go_enter Tryd.func5, Tryd.ntmps5
        go_wp2_with (first
          | (go_at_call 8; refine (wait_g w0 _ _ (by assumption)).mono ?_; rintro e w' ⟨rfl, hg⟩)
          | (go_at_call 10; refine (due_g w0 _ _ _ _ (by assumption)).mono ?_; rintro e w' ⟨rfl, hg⟩)
          | (go_at_call 12; refine (over_g w0 _ _ _ _ (by assumption)).mono ?_; rintro e w' ⟨rfl, hg⟩)
          | (go_at_call 14; refine (plan_g w0 _ _ (by assumption)).mono ?_; rintro e w' ⟨rfl, hg⟩)
          | (go_at_call 16; refine (left_g w0 _ _ _ _ (by assumption)).mono ?_; rintro e w' ⟨rfl, hg⟩)
          | (go_at_call 18; refine (wakes_g w0 _ (by assumption)).mono ?_; rintro e w' ⟨rfl, hg⟩))
        go_ret
        exact ⟨rfl, by assumption⟩
      · have k4 : waitF t - f < 0 := by omega
        clear k3
        go_enter Tryd.func5, Tryd.ntmps5
        go_wp2_with (first
          | (go_at_call 8; refine (wait_g w0 _ _ (by assumption)).mono ?_; rintro e w' ⟨rfl, hg⟩)
          | (go_at_call 10; refine (due_g w0 _ _ _ _ (by assumption)).mono ?_; rintro e w' ⟨rfl, hg⟩)
          | (go_at_call 12; refine (over_g w0 _ _ _ _ (by assumption)).mono ?_; rintro e w' ⟨rfl, hg⟩)
          | (go_at_call 14; refine (plan_g w0 _ _ (by assumption)).mono ?_; rintro e w' ⟨rfl, hg⟩)
          | (go_at_call 16; refine (left_g w0 _ _ _ _ (by assumption)).mono ?_; rintro e w' ⟨rfl, hg⟩)
          | (go_at_call 18; refine (wakes_g w0 _ (by assumption)).mono ?_; rintro e w' ⟨rfl, hg⟩))
        go_ret
        exact ⟨rfl, by assumption⟩
  · have q2 := leftF_some (s := s) (t := t) d2 d3 (by omega)
    have k1 : ¬ waitF t - f ≤ 0 := by omega
    have q5 : (waitF t - f == 0) = false := by simp; omega
    have q3 : dueB s t (s + f) = false := by
      by_cases k2 : t < 3
      · rw [dueB_far d2 d3 d4 k2]; exact decide_eq_false k
      · exact dueB_false (by omega)
    have q4 : overB s t (s + f) = false := by
      by_cases k2 : t < 3
      · exact overB_lt k2
      · rw [overB_far d2 d3 (by omega)]; exact decide_eq_false k
    go_enter Tryd.func5, Tryd.ntmps5
    go_wp2_with (first
      | (go_at_call 8; refine (wait_g w0 _ _ (by assumption)).mono ?_; rintro e w' ⟨rfl, hg⟩)
      | (go_at_call 10; refine (due_g w0 _ _ _ _ (by assumption)).mono ?_; rintro e w' ⟨rfl, hg⟩)
      | (go_at_call 12; refine (over_g w0 _ _ _ _ (by assumption)).mono ?_; rintro e w' ⟨rfl, hg⟩)
      | (go_at_call 14; refine (plan_g w0 _ _ (by assumption)).mono ?_; rintro e w' ⟨rfl, hg⟩)
      | (go_at_call 16; refine (left_g w0 _ _ _ _ (by assumption)).mono ?_; rintro e w' ⟨rfl, hg⟩)
      | (go_at_call 18; refine (wakes_g w0 _ (by assumption)).mono ?_; rintro e w' ⟨rfl, hg⟩))
    go_ret
    exact ⟨rfl, by assumption⟩

set_option maxRecDepth 100000 in
set_option maxHeartbeats 4000000 in
theorem left_walk (s t f : Int) (w0 : World) (w : World) (h : Good w0 w) : Calls Tryd.prog 5 #[.int .i64 s, .int .i64 t, .int .i64 f] w fun e w' => e = .returned (.bool true) ∧ Good w0 w' := by
  by_cases c0 : s < -1099511627776
  · go_enter Tryd.func5, Tryd.ntmps5
    go_wp2_with (first
      | (go_at_call 8; refine (wait_g w0 _ _ (by assumption)).mono ?_; rintro e w' ⟨rfl, hg⟩)
      | (go_at_call 10; refine (due_g w0 _ _ _ _ (by assumption)).mono ?_; rintro e w' ⟨rfl, hg⟩)
      | (go_at_call 12; refine (over_g w0 _ _ _ _ (by assumption)).mono ?_; rintro e w' ⟨rfl, hg⟩)
      | (go_at_call 14; refine (plan_g w0 _ _ (by assumption)).mono ?_; rintro e w' ⟨rfl, hg⟩)
      | (go_at_call 16; refine (left_g w0 _ _ _ _ (by assumption)).mono ?_; rintro e w' ⟨rfl, hg⟩)
      | (go_at_call 18; refine (wakes_g w0 _ (by assumption)).mono ?_; rintro e w' ⟨rfl, hg⟩))
    go_ret
    exact ⟨rfl, by assumption⟩
  · by_cases c1 : 1099511627776 < s
    · go_enter Tryd.func5, Tryd.ntmps5
      go_wp2_with (first
        | (go_at_call 8; refine (wait_g w0 _ _ (by assumption)).mono ?_; rintro e w' ⟨rfl, hg⟩)
        | (go_at_call 10; refine (due_g w0 _ _ _ _ (by assumption)).mono ?_; rintro e w' ⟨rfl, hg⟩)
        | (go_at_call 12; refine (over_g w0 _ _ _ _ (by assumption)).mono ?_; rintro e w' ⟨rfl, hg⟩)
        | (go_at_call 14; refine (plan_g w0 _ _ (by assumption)).mono ?_; rintro e w' ⟨rfl, hg⟩)
        | (go_at_call 16; refine (left_g w0 _ _ _ _ (by assumption)).mono ?_; rintro e w' ⟨rfl, hg⟩)
        | (go_at_call 18; refine (wakes_g w0 _ (by assumption)).mono ?_; rintro e w' ⟨rfl, hg⟩))
      go_ret
      exact ⟨rfl, by assumption⟩
    · by_cases c2 : f < 0
      · go_enter Tryd.func5, Tryd.ntmps5
        go_wp2_with (first
          | (go_at_call 8; refine (wait_g w0 _ _ (by assumption)).mono ?_; rintro e w' ⟨rfl, hg⟩)
          | (go_at_call 10; refine (due_g w0 _ _ _ _ (by assumption)).mono ?_; rintro e w' ⟨rfl, hg⟩)
          | (go_at_call 12; refine (over_g w0 _ _ _ _ (by assumption)).mono ?_; rintro e w' ⟨rfl, hg⟩)
          | (go_at_call 14; refine (plan_g w0 _ _ (by assumption)).mono ?_; rintro e w' ⟨rfl, hg⟩)
          | (go_at_call 16; refine (left_g w0 _ _ _ _ (by assumption)).mono ?_; rintro e w' ⟨rfl, hg⟩)
          | (go_at_call 18; refine (wakes_g w0 _ (by assumption)).mono ?_; rintro e w' ⟨rfl, hg⟩))
        go_ret
        exact ⟨rfl, by assumption⟩
      · by_cases c3 : 1099511627776 < f
        · go_enter Tryd.func5, Tryd.ntmps5
          go_wp2_with (first
            | (go_at_call 8; refine (wait_g w0 _ _ (by assumption)).mono ?_; rintro e w' ⟨rfl, hg⟩)
            | (go_at_call 10; refine (due_g w0 _ _ _ _ (by assumption)).mono ?_; rintro e w' ⟨rfl, hg⟩)
            | (go_at_call 12; refine (over_g w0 _ _ _ _ (by assumption)).mono ?_; rintro e w' ⟨rfl, hg⟩)
            | (go_at_call 14; refine (plan_g w0 _ _ (by assumption)).mono ?_; rintro e w' ⟨rfl, hg⟩)
            | (go_at_call 16; refine (left_g w0 _ _ _ _ (by assumption)).mono ?_; rintro e w' ⟨rfl, hg⟩)
            | (go_at_call 18; refine (wakes_g w0 _ (by assumption)).mono ?_; rintro e w' ⟨rfl, hg⟩))
          go_ret
          exact ⟨rfl, by assumption⟩
        · by_cases c4 : t < 1
          · go_enter Tryd.func5, Tryd.ntmps5
            go_wp2_with (first
              | (go_at_call 8; refine (wait_g w0 _ _ (by assumption)).mono ?_; rintro e w' ⟨rfl, hg⟩)
              | (go_at_call 10; refine (due_g w0 _ _ _ _ (by assumption)).mono ?_; rintro e w' ⟨rfl, hg⟩)
              | (go_at_call 12; refine (over_g w0 _ _ _ _ (by assumption)).mono ?_; rintro e w' ⟨rfl, hg⟩)
              | (go_at_call 14; refine (plan_g w0 _ _ (by assumption)).mono ?_; rintro e w' ⟨rfl, hg⟩)
              | (go_at_call 16; refine (left_g w0 _ _ _ _ (by assumption)).mono ?_; rintro e w' ⟨rfl, hg⟩)
              | (go_at_call 18; refine (wakes_g w0 _ (by assumption)).mono ?_; rintro e w' ⟨rfl, hg⟩))
            go_ret
            exact ⟨rfl, by assumption⟩
          · by_cases c5 : 1099511627776 < t
            · go_enter Tryd.func5, Tryd.ntmps5
              go_wp2_with (first
                | (go_at_call 8; refine (wait_g w0 _ _ (by assumption)).mono ?_; rintro e w' ⟨rfl, hg⟩)
                | (go_at_call 10; refine (due_g w0 _ _ _ _ (by assumption)).mono ?_; rintro e w' ⟨rfl, hg⟩)
                | (go_at_call 12; refine (over_g w0 _ _ _ _ (by assumption)).mono ?_; rintro e w' ⟨rfl, hg⟩)
                | (go_at_call 14; refine (plan_g w0 _ _ (by assumption)).mono ?_; rintro e w' ⟨rfl, hg⟩)
                | (go_at_call 16; refine (left_g w0 _ _ _ _ (by assumption)).mono ?_; rintro e w' ⟨rfl, hg⟩)
                | (go_at_call 18; refine (wakes_g w0 _ (by assumption)).mono ?_; rintro e w' ⟨rfl, hg⟩))
              go_ret
              exact ⟨rfl, by assumption⟩
            · have d0 : -1099511627776 ≤ s := by omega
              have d1 : s ≤ 1099511627776 := by omega
              have d2 : 0 ≤ f := by omega
              have d3 : f ≤ 1099511627776 := by omega
              have d4 : 1 ≤ t := by omega
              have d5 : t ≤ 1099511627776 := by omega
              exact left_in s t f w0 w h d0 d1 d2 d3 d4 d5
end Go.Proofs.YtpalgphkpmhpjaaDoor
