/-
  The contracts in the form in which the laws use them, and what 'wakes' answers.
-/
import Derived.Test.YtpalgphkpmhpjaaDoorB
namespace Go.Proofs.YtpalgphkpmhpjaaDoor
open Go.RowKit Go.Shelf

/-- w0 has at most grown to w, and the table lies there. -/
def Good (w0 w : World) : Prop := Below w0.heap.size w0 w ∧ Held w
theorem Good.below {w0 w w' : World} (h : Good w0 w) (hb : Below w.heap.size w w') : Good w0 w' := ⟨h.1.trans (hb.mono h.1.size), h.2.below hb⟩
theorem Good.start {w : World} (h : Held w) : Good w w := ⟨Below.refl _ _, h⟩

theorem wait_g (w0 : World) (t : Int) (w : World) (h : Good w0 w) : Calls Tryd.prog 8 #[.int .i64 t] w fun e w' => e = .returned (.int .i64 (waitF t)) ∧ Good w0 w' :=
  (wait_any t w h.2).mono fun _ _ ⟨he, hw⟩ => ⟨he, hw ▸ h⟩
theorem refwait_g (w0 : World) (t : Int) (w : World) (h : Good w0 w) : Calls Tryd.prog 9 #[.int .i64 t] w fun e w' => e = .returned (.int .i64 (waitF t)) ∧ Good w0 w' :=
  (refwait_any t w).mono fun _ _ ⟨he, hw⟩ => ⟨he, hw ▸ h⟩
theorem due_g (w0 : World) (s t n : Int) (w : World) (h : Good w0 w) : Calls Tryd.prog 10 #[.int .i64 s, .int .i64 t, .int .i64 n] w fun e w' => e = .returned (.bool (dueB s t n)) ∧ Good w0 w' :=
  (due_any s t n w h.2).mono fun _ _ ⟨he, hb⟩ => ⟨he, h.below hb⟩
theorem refdue_g (w0 : World) (s t n : Int) (w : World) (h : Good w0 w) : Calls Tryd.prog 11 #[.int .i64 s, .int .i64 t, .int .i64 n] w fun e w' => e = .returned (.bool (dueB s t n)) ∧ Good w0 w' :=
  (refdue_any s t n w).mono fun _ _ ⟨he, hw⟩ => ⟨he, hw ▸ h⟩
theorem over_g (w0 : World) (s t n : Int) (w : World) (h : Good w0 w) : Calls Tryd.prog 12 #[.int .i64 s, .int .i64 t, .int .i64 n] w fun e w' => e = .returned (.bool (overB s t n)) ∧ Good w0 w' :=
  (over_any s t n w h.2).mono fun _ _ ⟨he, hb⟩ => ⟨he, h.below hb⟩
theorem refover_g (w0 : World) (s t n : Int) (w : World) (h : Good w0 w) : Calls Tryd.prog 13 #[.int .i64 s, .int .i64 t, .int .i64 n] w fun e w' => e = .returned (.bool (overB s t n)) ∧ Good w0 w' :=
  (refover_any s t n w).mono fun _ _ ⟨he, hw⟩ => ⟨he, hw ▸ h⟩
theorem plan_g (w0 : World) (b : Int) (w : World) (h : Good w0 w) : Calls Tryd.prog 14 #[.int .i64 b] w fun e w' => e = .returned (.agg #[.int .i64 b, .int .i64 (wrap64 (b + 1)), .int .i64 (wrap64 (b + 3)), .int .i64 (wrap64 (b + 7))]) ∧ Good w0 w' :=
  (plan_any b w h.2).mono fun _ _ ⟨he, hb⟩ => ⟨he, h.below hb⟩
theorem refplan_g (w0 : World) (b : Int) (w : World) (h : Good w0 w) : Calls Tryd.prog 15 #[.int .i64 b] w fun e w' => e = .returned (.agg #[.int .i64 b, .int .i64 (wrap64 (b + 1)), .int .i64 (wrap64 (b + 3)), .int .i64 (wrap64 (b + 7))]) ∧ Good w0 w' :=
  (refplan_any b w).mono fun _ _ ⟨he, hb⟩ => ⟨he, h.below hb⟩
theorem left_g (w0 : World) (s t n : Int) (w : World) (h : Good w0 w) : Calls Tryd.prog 16 #[.int .i64 s, .int .i64 t, .int .i64 n] w fun e w' => e = .returned (.int .i64 (leftF s t n)) ∧ Good w0 w' :=
  (left_any s t n w h.2).mono fun _ _ ⟨he, hw⟩ => ⟨he, hw ▸ h⟩
theorem refleft_g (w0 : World) (s t n : Int) (w : World) (h : Good w0 w) : Calls Tryd.prog 17 #[.int .i64 s, .int .i64 t, .int .i64 n] w fun e w' => e = .returned (.int .i64 (leftF s t n)) ∧ Good w0 w' :=
  (refleft_any s t n w).mono fun _ _ ⟨he, hw⟩ => ⟨he, hw ▸ h⟩

/-- Equality of two arrays of four numbers. -/
theorem run_equalIn_four (d : Nat) (a b c e a' b' c' e' : Int) (w : World) :
    (Op.equalIn (d + 1 + 1) 24 (.agg #[.int .i64 a, .int .i64 b, .int .i64 c, .int .i64 e]) (.agg #[.int .i64 a', .int .i64 b', .int .i64 c', .int .i64 e'])).run Tryd.prog w = .ok (a == a' && b == b' && c == c' && e == e') w := by
  have s3 : (sizeOf 3).run Tryd.prog w = .ok 1 w := by kernel_rfl
  have p0 : ∀ (x y z u : Value), (part 3 #[x, y, z, u] 0).run Tryd.prog w = .ok x w := fun x y z u => by kernel_rfl
  have p1 : ∀ (x y z u : Value), (part 3 #[x, y, z, u] 1).run Tryd.prog w = .ok y w := fun x y z u => by kernel_rfl
  have p2 : ∀ (x y z u : Value), (part 3 #[x, y, z, u] 2).run Tryd.prog w = .ok z w := fun x y z u => by kernel_rfl
  have p3 : ∀ (x y z u : Value), (part 3 #[x, y, z, u] 3).run Tryd.prog w = .ok u w := fun x y z u => by kernel_rfl
  have q : ∀ x y : Int, (Op.equalIn (d + 1) 3 (.int .i64 x) (.int .i64 y)).run Tryd.prog w = .ok (x == y) w := fun x y => run_equalIn_int w d 3 .i64 .i64 x y Tryd.underlying3
  rw [Op.equalIn]
  simp only [Sem.run_bind, run_underlying Tryd.underlying24, Result.andThen_ok, s3]
  rw [Std.Legacy.Range.forIn_eq_forIn_range']
  simp [List.range', p0, p1, p2, p3, q]
  by_cases h1 : a = a' <;> by_cases h2 : b = b' <;> by_cases h3 : c = c' <;> by_cases h4 : e = e' <;> simp [h1, h2, h3, h4]
theorem run_eq_four (a b c e a' b' c' e' : Int) (w : World) :
    (Op.equalIn 10000 24 (.agg #[.int .i64 a, .int .i64 b, .int .i64 c, .int .i64 e]) (.agg #[.int .i64 a', .int .i64 b', .int .i64 c', .int .i64 e'])).run Tryd.prog w = .ok (a == a' && b == b' && c == c' && e == e') w :=
  run_equalIn_four 9998 a b c e a' b' c' e' w
attribute [local go_sem] run_eq_four

theorem plan_ten (w0 w : World) (h : Good w0 w) : Calls Tryd.prog 14 #[.int .i64 10] w fun e w' => e = .returned (.agg #[.int .i64 10, .int .i64 11, .int .i64 13, .int .i64 17]) ∧ Good w0 w' := by
  have e1 : wrap64 (10 + 1) = 11 := by decide +kernel
  have e2 : wrap64 (10 + 3) = 13 := by decide +kernel
  have e3 : wrap64 (10 + 7) = 17 := by decide +kernel
  have := plan_g w0 10 w h
  rwa [e1, e2, e3] at this

set_option maxRecDepth 100000 in
set_option maxHeartbeats 1000000 in
theorem wakes_g (w0 : World) (w : World) (h : Good w0 w) : Calls Tryd.prog 18 #[] w fun e w' => e = .returned (.bool true) ∧ Good w0 w' := by
  have a1 : waitF 1 = 1 := by decide +kernel
  have a2 : waitF 9 = 4 := by decide +kernel
  have a3 : waitF 0 = 0 := by decide +kernel
  have a4 : dueB 10 1 11 = true := by decide +kernel
  have a5 : dueB 10 2 11 = false := by decide +kernel
  have a6 : dueB 10 3 99 = false := by decide +kernel
  have a7 : overB 13 3 17 = true := by decide +kernel
  have a8 : overB 13 3 16 = false := by decide +kernel
  have a9 : leftF 13 3 14 = 3 := by decide +kernel
  have a10 : leftF 13 1 99 = 0 := by decide +kernel
  go_enter Tryd.func18, Tryd.ntmps18
  go_wp2_with (first
    | (go_at_call 14; refine (plan_ten w0 _ (by assumption)).mono ?_; rintro e w' ⟨rfl, hg⟩)
    | (go_at_call 8; refine (wait_g w0 _ _ (by assumption)).mono ?_; rintro e w' ⟨rfl, hg⟩)
    | (go_at_call 10; refine (due_g w0 _ _ _ _ (by assumption)).mono ?_; rintro e w' ⟨rfl, hg⟩)
    | (go_at_call 12; refine (over_g w0 _ _ _ _ (by assumption)).mono ?_; rintro e w' ⟨rfl, hg⟩)
    | (go_at_call 16; refine (left_g w0 _ _ _ _ (by assumption)).mono ?_; rintro e w' ⟨rfl, hg⟩))
  go_ret
  exact ⟨rfl, by assumption⟩
end Go.Proofs.YtpalgphkpmhpjaaDoor
