/-
  The law WaitPlan: the walk round by round.
-/
import Derived.Test.YtpalgphkpmhpjaaDoorC
import Derived.Deep.QuietTactic
import Derived.BigQuiet
namespace Go.Proofs.YtpalgphkpmhpjaaDoor
open Go.RowKit Go.Shelf

theorem wrap_diff (b i j : Int) (h1 : -1000 ≤ i - j) (h2 : i - j ≤ 1000) : wrap64 (wrap64 (b + i) - wrap64 (b + j)) = i - j := by unfold wrap64; omega
theorem wrap_diff0 (b i : Int) (h1 : -1000 ≤ i) (h2 : i ≤ 1000) : wrap64 (wrap64 (b + i) - b) = i := by unfold wrap64; omega
theorem wrap_ne (b i j : Int) (h1 : -1000 ≤ i - j) (h2 : i - j ≤ 1000) (h3 : i ≠ j) : (wrap64 (b + i) == wrap64 (b + j)) = false := by
  have : wrap64 (b + i) ≠ wrap64 (b + j) := by unfold wrap64; omega
  simpa using this
theorem due_at (b i j t : Int) (h1 : -1000 ≤ i - j) (h2 : i - j ≤ 1000) : dueB (wrap64 (b + j)) t (wrap64 (b + i)) = (decide (1 ≤ t) && decide (t < 3) && decide (waitF t ≤ i - j)) := by
  unfold dueB; rw [wrap_diff b i j h1 h2]
theorem over_at (b i j t : Int) (h1 : -1000 ≤ i - j) (h2 : i - j ≤ 1000) : overB (wrap64 (b + j)) t (wrap64 (b + i)) = (decide (3 ≤ t) && decide (4 ≤ i - j)) := by
  unfold overB; rw [wrap_diff b i j h1 h2]
theorem due_at0 (b i t : Int) (h1 : -1000 ≤ i) (h2 : i ≤ 1000) : dueB b t (wrap64 (b + i)) = (decide (1 ≤ t) && decide (t < 3) && decide (waitF t ≤ i)) := by
  unfold dueB; rw [wrap_diff0 b i h1 h2]
theorem over_at0 (b i t : Int) (h1 : -1000 ≤ i) (h2 : i ≤ 1000) : overB b t (wrap64 (b + i)) = (decide (3 ≤ t) && decide (4 ≤ i)) := by
  unfold overB; rw [wrap_diff0 b i h1 h2]

/-- What is known at the head of each round: so many ticks have gone by. -/
def PlanKept (w0 : World) (A : Nat) (b : Int) (wr : World) : Prop := Good w0 wr ∧ Row wr A #[.int .i64 (b), .int .i64 (wrap64 (b + 1)), .int .i64 (wrap64 (b + 3)), .int .i64 (wrap64 (b + 7))] 24
def RelK (b : Int) : Nat → Value → Value → Value → Value → Prop
  | 1, x, t, o, i => i = .int .i64 1 ∧ x = .int .i64 (b) ∧ t = .int .i64 1 ∧ o = .int .i64 0
  | 2, x, t, o, i => i = .int .i64 2 ∧ x = .int .i64 (wrap64 (b + 1)) ∧ t = .int .i64 2 ∧ o = .int .i64 0
  | 3, x, t, o, i => i = .int .i64 3 ∧ x = .int .i64 (wrap64 (b + 1)) ∧ t = .int .i64 2 ∧ o = .int .i64 0
  | 4, x, t, o, i => i = .int .i64 4 ∧ x = .int .i64 (wrap64 (b + 3)) ∧ t = .int .i64 3 ∧ o = .int .i64 0
  | 5, x, t, o, i => i = .int .i64 5 ∧ x = .int .i64 (wrap64 (b + 3)) ∧ t = .int .i64 3 ∧ o = .int .i64 0
  | 6, x, t, o, i => i = .int .i64 6 ∧ x = .int .i64 (wrap64 (b + 3)) ∧ t = .int .i64 3 ∧ o = .int .i64 0
  | 7, x, t, o, i => i = .int .i64 7 ∧ x = .int .i64 (wrap64 (b + 3)) ∧ t = .int .i64 3 ∧ o = .int .i64 0
  | 8, x, t, o, i => i = .int .i64 8 ∧ x = .int .i64 (wrap64 (b + 3)) ∧ t = .int .i64 3 ∧ o = .int .i64 7
  | 9, x, t, o, i => i = .int .i64 9 ∧ x = .int .i64 (wrap64 (b + 3)) ∧ t = .int .i64 3 ∧ o = .int .i64 7
  | 10, x, t, o, i => i = .int .i64 10 ∧ x = .int .i64 (wrap64 (b + 3)) ∧ t = .int .i64 3 ∧ o = .int .i64 7
  | 11, x, t, o, i => i = .int .i64 11 ∧ x = .int .i64 (wrap64 (b + 3)) ∧ t = .int .i64 3 ∧ o = .int .i64 7
  | 12, x, t, o, i => i = .int .i64 12 ∧ x = .int .i64 (wrap64 (b + 3)) ∧ t = .int .i64 3 ∧ o = .int .i64 7
  | 13, x, t, o, i => i = .int .i64 13 ∧ x = .int .i64 (wrap64 (b + 3)) ∧ t = .int .i64 3 ∧ o = .int .i64 7
  | _, _, _, _, _ => False
def RelP (w0 : World) (A : Nat) (b : Int) (x t o i : Value) (wr : World) : Prop := PlanKept w0 A b wr ∧ ∃ k, RelK b k x t o i
theorem PlanKept.next {w0 wr w' : World} {A : Nat} {b : Int} (h : PlanKept w0 A b wr) (hg : Good wr w') : PlanKept w0 A b w' := ⟨h.1.below hg.1, h.2.same (hg.1.block A h.2.lt)⟩
theorem RelK.bound {b : Int} {k : Nat} {x t o i : Value} (h : RelK b k x t o i) : 1 ≤ k ∧ k ≤ 13 := by
  unfold RelK at h
  split at h <;> first | omega | exact h.elim

set_option maxRecDepth 100000 in
set_option maxHeartbeats 8000000 in
theorem plan_walk (b : Int) (w0 : World) (w : World) (h : Good w0 w) : Calls Tryd.prog 4 #[.int .i64 b] w fun e w' => e = .returned (.bool true) ∧ Good w0 w' := by
  go_enter Tryd.func4, Tryd.ntmps4
  go_wp2_with (first
    | (go_at_call 10; refine (due_g w0 _ _ _ _ (by assumption)).mono ?_; rintro e w' ⟨rfl, hg⟩)
    | (go_at_call 12; refine (over_g w0 _ _ _ _ (by assumption)).mono ?_; rintro e w' ⟨rfl, hg⟩)
    | (go_at_call 14; refine (plan_g w0 _ _ (by assumption)).mono ?_; rintro e w' ⟨rfl, hg⟩)
    | (go_at_call 18; refine (wakes_g w0 _ (by assumption)).mono ?_; rintro e w' ⟨rfl, hg⟩))
  have hrow := Row.new w' #[.int .i64 (b), .int .i64 (wrap64 (b + 1)), .int .i64 (wrap64 (b + 3)), .int .i64 (wrap64 (b + 7))] 24
  have hgood : Good w0 (w'.alloc (.cells #[.int .i64 (b), .int .i64 (wrap64 (b + 1)), .int .i64 (wrap64 (b + 3)), .int .i64 (wrap64 (b + 7))] 24)) := hg.below ((Below.refl _ w').alloc (Nat.le_refl _) _)
  obtain ⟨A, hAe⟩ : ∃ A, w'.heap.size = A := ⟨_, rfl⟩
  rw [hAe] at hrow ⊢
  clear hAe
  go_loopw [4, 5, 6, 7] (fun x t o i wr => RelP w0 A b x t o i wr) (fun _ _ _ i _ => 13 - (intOf i).toNat)
  case atStart => exact ⟨⟨hgood, hrow⟩, 1, rfl, rfl, rfl, rfl⟩
  case round =>
    obtain ⟨⟨hgw, hA⟩, k, hk⟩ := hrel
    clear hrow hgood hg
    have hkb := hk.bound
    match k, hkb, hk with
    | 1, _, ⟨e1, e2, e3, e4⟩ =>
      subst e1 e2 e3 e4
      have q1 : dueB (b) 1 (wrap64 (b + 1)) = true := by rw [due_at0 b 1 1 (by omega) (by omega)]; decide +kernel
      have q2 : overB (b) 1 (wrap64 (b + 1)) = false := by rw [over_at0 b 1 1 (by omega) (by omega)]; decide +kernel
      have c1 := hA.cell (j := 1) (v := .int .i64 (wrap64 (b + 1))) rfl
      have hgs := Good.start hgw.2
      have hl := hA.lt
      go_wp2_with (first
        | (go_at_call 10; refine (due_g wr _ _ _ _ (by assumption)).mono ?_; rintro e w' ⟨rfl, hg⟩)
        | (go_at_call 12; refine (over_g wr _ _ _ _ (by assumption)).mono ?_; rintro e w' ⟨rfl, hg⟩; have c2 := (hg.1.cell (p := ⟨A, 1, none⟩) hl).trans c1))
      go_roundw
      case rel => exact ⟨PlanKept.next ⟨hgw, hA⟩ hg, 2, rfl, rfl, rfl, rfl⟩
      case measure => simp [intOf]
    | 2, _, ⟨e1, e2, e3, e4⟩ =>
      subst e1 e2 e3 e4
      have q1 : dueB (wrap64 (b + 1)) 2 (wrap64 (b + 2)) = false := by rw [due_at b 2 1 2 (by omega) (by omega)]; decide +kernel
      have q2 : overB (wrap64 (b + 1)) 2 (wrap64 (b + 2)) = false := by rw [over_at b 2 1 2 (by omega) (by omega)]; decide +kernel
      have c1 := hA.cell (j := 2) (v := .int .i64 (wrap64 (b + 3))) rfl
      have q3 : (wrap64 (b + 2) == wrap64 (b + 3)) = false := wrap_ne b 2 3 (by omega) (by omega) (by omega)
      have hgs := Good.start hgw.2
      have hl := hA.lt
      go_wp2_with (first
        | (go_at_call 10; refine (due_g wr _ _ _ _ (by assumption)).mono ?_; rintro e w' ⟨rfl, hg⟩)
        | (go_at_call 12; refine (over_g wr _ _ _ _ (by assumption)).mono ?_; rintro e w' ⟨rfl, hg⟩; have c2 := (hg.1.cell (p := ⟨A, 2, none⟩) hl).trans c1))
      go_roundw
      case rel => exact ⟨PlanKept.next ⟨hgw, hA⟩ hg, 3, rfl, rfl, rfl, rfl⟩
      case measure => simp [intOf]
    | 3, _, ⟨e1, e2, e3, e4⟩ =>
      subst e1 e2 e3 e4
      have q1 : dueB (wrap64 (b + 1)) 2 (wrap64 (b + 3)) = true := by rw [due_at b 3 1 2 (by omega) (by omega)]; decide +kernel
      have q2 : overB (wrap64 (b + 1)) 2 (wrap64 (b + 3)) = false := by rw [over_at b 3 1 2 (by omega) (by omega)]; decide +kernel
      have c1 := hA.cell (j := 2) (v := .int .i64 (wrap64 (b + 3))) rfl
      have hgs := Good.start hgw.2
      have hl := hA.lt
      go_wp2_with (first
        | (go_at_call 10; refine (due_g wr _ _ _ _ (by assumption)).mono ?_; rintro e w' ⟨rfl, hg⟩)
        | (go_at_call 12; refine (over_g wr _ _ _ _ (by assumption)).mono ?_; rintro e w' ⟨rfl, hg⟩; have c2 := (hg.1.cell (p := ⟨A, 2, none⟩) hl).trans c1))
      go_roundw
      case rel => exact ⟨PlanKept.next ⟨hgw, hA⟩ hg, 4, rfl, rfl, rfl, rfl⟩
      case measure => simp [intOf]
    | 4, _, ⟨e1, e2, e3, e4⟩ =>
      subst e1 e2 e3 e4
      have q1 : dueB (wrap64 (b + 3)) 3 (wrap64 (b + 4)) = false := by rw [due_at b 4 3 3 (by omega) (by omega)]; decide +kernel
      have q2 : overB (wrap64 (b + 3)) 3 (wrap64 (b + 4)) = false := by rw [over_at b 4 3 3 (by omega) (by omega)]; decide +kernel
      have c1 := hA.cell (j := 3) (v := .int .i64 (wrap64 (b + 7))) rfl
      have q4 : wrap64 (wrap64 (b + 7) - b) = 7 := wrap_diff0 b 7 (by omega) (by omega)
      have hgs := Good.start hgw.2
      have hl := hA.lt
      go_wp2_with (first
        | (go_at_call 10; refine (due_g wr _ _ _ _ (by assumption)).mono ?_; rintro e w' ⟨rfl, hg⟩)
        | (go_at_call 12; refine (over_g wr _ _ _ _ (by assumption)).mono ?_; rintro e w' ⟨rfl, hg⟩; have c2 := (hg.1.cell (p := ⟨A, 3, none⟩) hl).trans c1))
      go_roundw
      case rel => exact ⟨PlanKept.next ⟨hgw, hA⟩ hg, 5, rfl, rfl, rfl, rfl⟩
      case measure => simp [intOf]
    | 5, _, ⟨e1, e2, e3, e4⟩ =>
      subst e1 e2 e3 e4
      have q1 : dueB (wrap64 (b + 3)) 3 (wrap64 (b + 5)) = false := by rw [due_at b 5 3 3 (by omega) (by omega)]; decide +kernel
      have q2 : overB (wrap64 (b + 3)) 3 (wrap64 (b + 5)) = false := by rw [over_at b 5 3 3 (by omega) (by omega)]; decide +kernel
      have c1 := hA.cell (j := 3) (v := .int .i64 (wrap64 (b + 7))) rfl
      have q4 : wrap64 (wrap64 (b + 7) - b) = 7 := wrap_diff0 b 7 (by omega) (by omega)
      have hgs := Good.start hgw.2
      have hl := hA.lt
      go_wp2_with (first
        | (go_at_call 10; refine (due_g wr _ _ _ _ (by assumption)).mono ?_; rintro e w' ⟨rfl, hg⟩)
        | (go_at_call 12; refine (over_g wr _ _ _ _ (by assumption)).mono ?_; rintro e w' ⟨rfl, hg⟩; have c2 := (hg.1.cell (p := ⟨A, 3, none⟩) hl).trans c1))
      go_roundw
      case rel => exact ⟨PlanKept.next ⟨hgw, hA⟩ hg, 6, rfl, rfl, rfl, rfl⟩
      case measure => simp [intOf]
    | 6, _, ⟨e1, e2, e3, e4⟩ =>
      subst e1 e2 e3 e4
      have q1 : dueB (wrap64 (b + 3)) 3 (wrap64 (b + 6)) = false := by rw [due_at b 6 3 3 (by omega) (by omega)]; decide +kernel
      have q2 : overB (wrap64 (b + 3)) 3 (wrap64 (b + 6)) = false := by rw [over_at b 6 3 3 (by omega) (by omega)]; decide +kernel
      have c1 := hA.cell (j := 3) (v := .int .i64 (wrap64 (b + 7))) rfl
      have q4 : wrap64 (wrap64 (b + 7) - b) = 7 := wrap_diff0 b 7 (by omega) (by omega)
      have hgs := Good.start hgw.2
      have hl := hA.lt
      go_wp2_with (first
        | (go_at_call 10; refine (due_g wr _ _ _ _ (by assumption)).mono ?_; rintro e w' ⟨rfl, hg⟩)
        | (go_at_call 12; refine (over_g wr _ _ _ _ (by assumption)).mono ?_; rintro e w' ⟨rfl, hg⟩; have c2 := (hg.1.cell (p := ⟨A, 3, none⟩) hl).trans c1))
      go_roundw
      case rel => exact ⟨PlanKept.next ⟨hgw, hA⟩ hg, 7, rfl, rfl, rfl, rfl⟩
      case measure => simp [intOf]
    | 7, _, ⟨e1, e2, e3, e4⟩ =>
      subst e1 e2 e3 e4
      have q1 : dueB (wrap64 (b + 3)) 3 (wrap64 (b + 7)) = false := by rw [due_at b 7 3 3 (by omega) (by omega)]; decide +kernel
      have q2 : overB (wrap64 (b + 3)) 3 (wrap64 (b + 7)) = true := by rw [over_at b 7 3 3 (by omega) (by omega)]; decide +kernel
      have c1 := hA.cell (j := 3) (v := .int .i64 (wrap64 (b + 7))) rfl
      have q4 : wrap64 (wrap64 (b + 7) - b) = 7 := wrap_diff0 b 7 (by omega) (by omega)
      have hgs := Good.start hgw.2
      have hl := hA.lt
      go_wp2_with (first
        | (go_at_call 10; refine (due_g wr _ _ _ _ (by assumption)).mono ?_; rintro e w' ⟨rfl, hg⟩)
        | (go_at_call 12; refine (over_g wr _ _ _ _ (by assumption)).mono ?_; rintro e w' ⟨rfl, hg⟩; have c2 := (hg.1.cell (p := ⟨A, 3, none⟩) hl).trans c1))
      go_roundw
      case rel => exact ⟨PlanKept.next ⟨hgw, hA⟩ hg, 8, rfl, rfl, rfl, rfl⟩
      case measure => simp [intOf]
    | 8, _, ⟨e1, e2, e3, e4⟩ =>
      subst e1 e2 e3 e4
      have q1 : dueB (wrap64 (b + 3)) 3 (wrap64 (b + 8)) = false := by rw [due_at b 8 3 3 (by omega) (by omega)]; decide +kernel
      have q2 : overB (wrap64 (b + 3)) 3 (wrap64 (b + 8)) = true := by rw [over_at b 8 3 3 (by omega) (by omega)]; decide +kernel
      have c1 := hA.cell (j := 3) (v := .int .i64 (wrap64 (b + 7))) rfl
      have q4 : wrap64 (wrap64 (b + 7) - b) = 7 := wrap_diff0 b 7 (by omega) (by omega)
      have hgs := Good.start hgw.2
      have hl := hA.lt
      go_wp2_with (first
        | (go_at_call 10; refine (due_g wr _ _ _ _ (by assumption)).mono ?_; rintro e w' ⟨rfl, hg⟩)
        | (go_at_call 12; refine (over_g wr _ _ _ _ (by assumption)).mono ?_; rintro e w' ⟨rfl, hg⟩; have c2 := (hg.1.cell (p := ⟨A, 3, none⟩) hl).trans c1))
      go_roundw
      case rel => exact ⟨PlanKept.next ⟨hgw, hA⟩ hg, 9, rfl, rfl, rfl, rfl⟩
      case measure => simp [intOf]
    | 9, _, ⟨e1, e2, e3, e4⟩ =>
      subst e1 e2 e3 e4
      have q1 : dueB (wrap64 (b + 3)) 3 (wrap64 (b + 9)) = false := by rw [due_at b 9 3 3 (by omega) (by omega)]; decide +kernel
      have q2 : overB (wrap64 (b + 3)) 3 (wrap64 (b + 9)) = true := by rw [over_at b 9 3 3 (by omega) (by omega)]; decide +kernel
      have c1 := hA.cell (j := 3) (v := .int .i64 (wrap64 (b + 7))) rfl
      have q4 : wrap64 (wrap64 (b + 7) - b) = 7 := wrap_diff0 b 7 (by omega) (by omega)
      have hgs := Good.start hgw.2
      have hl := hA.lt
      go_wp2_with (first
        | (go_at_call 10; refine (due_g wr _ _ _ _ (by assumption)).mono ?_; rintro e w' ⟨rfl, hg⟩)
        | (go_at_call 12; refine (over_g wr _ _ _ _ (by assumption)).mono ?_; rintro e w' ⟨rfl, hg⟩; have c2 := (hg.1.cell (p := ⟨A, 3, none⟩) hl).trans c1))
      go_roundw
      case rel => exact ⟨PlanKept.next ⟨hgw, hA⟩ hg, 10, rfl, rfl, rfl, rfl⟩
      case measure => simp [intOf]
    | 10, _, ⟨e1, e2, e3, e4⟩ =>
      subst e1 e2 e3 e4
      have q1 : dueB (wrap64 (b + 3)) 3 (wrap64 (b + 10)) = false := by rw [due_at b 10 3 3 (by omega) (by omega)]; decide +kernel
      have q2 : overB (wrap64 (b + 3)) 3 (wrap64 (b + 10)) = true := by rw [over_at b 10 3 3 (by omega) (by omega)]; decide +kernel
      have c1 := hA.cell (j := 3) (v := .int .i64 (wrap64 (b + 7))) rfl
      have q4 : wrap64 (wrap64 (b + 7) - b) = 7 := wrap_diff0 b 7 (by omega) (by omega)
      have hgs := Good.start hgw.2
      have hl := hA.lt
      go_wp2_with (first
        | (go_at_call 10; refine (due_g wr _ _ _ _ (by assumption)).mono ?_; rintro e w' ⟨rfl, hg⟩)
        | (go_at_call 12; refine (over_g wr _ _ _ _ (by assumption)).mono ?_; rintro e w' ⟨rfl, hg⟩; have c2 := (hg.1.cell (p := ⟨A, 3, none⟩) hl).trans c1))
      go_roundw
      case rel => exact ⟨PlanKept.next ⟨hgw, hA⟩ hg, 11, rfl, rfl, rfl, rfl⟩
      case measure => simp [intOf]
    | 11, _, ⟨e1, e2, e3, e4⟩ =>
      subst e1 e2 e3 e4
      have q1 : dueB (wrap64 (b + 3)) 3 (wrap64 (b + 11)) = false := by rw [due_at b 11 3 3 (by omega) (by omega)]; decide +kernel
      have q2 : overB (wrap64 (b + 3)) 3 (wrap64 (b + 11)) = true := by rw [over_at b 11 3 3 (by omega) (by omega)]; decide +kernel
      have c1 := hA.cell (j := 3) (v := .int .i64 (wrap64 (b + 7))) rfl
      have q4 : wrap64 (wrap64 (b + 7) - b) = 7 := wrap_diff0 b 7 (by omega) (by omega)
      have hgs := Good.start hgw.2
      have hl := hA.lt
      go_wp2_with (first
        | (go_at_call 10; refine (due_g wr _ _ _ _ (by assumption)).mono ?_; rintro e w' ⟨rfl, hg⟩)
        | (go_at_call 12; refine (over_g wr _ _ _ _ (by assumption)).mono ?_; rintro e w' ⟨rfl, hg⟩; have c2 := (hg.1.cell (p := ⟨A, 3, none⟩) hl).trans c1))
      go_roundw
      case rel => exact ⟨PlanKept.next ⟨hgw, hA⟩ hg, 12, rfl, rfl, rfl, rfl⟩
      case measure => simp [intOf]
    | 12, _, ⟨e1, e2, e3, e4⟩ =>
      subst e1 e2 e3 e4
      have q1 : dueB (wrap64 (b + 3)) 3 (wrap64 (b + 12)) = false := by rw [due_at b 12 3 3 (by omega) (by omega)]; decide +kernel
      have q2 : overB (wrap64 (b + 3)) 3 (wrap64 (b + 12)) = true := by rw [over_at b 12 3 3 (by omega) (by omega)]; decide +kernel
      have c1 := hA.cell (j := 3) (v := .int .i64 (wrap64 (b + 7))) rfl
      have q4 : wrap64 (wrap64 (b + 7) - b) = 7 := wrap_diff0 b 7 (by omega) (by omega)
      have hgs := Good.start hgw.2
      have hl := hA.lt
      go_wp2_with (first
        | (go_at_call 10; refine (due_g wr _ _ _ _ (by assumption)).mono ?_; rintro e w' ⟨rfl, hg⟩)
        | (go_at_call 12; refine (over_g wr _ _ _ _ (by assumption)).mono ?_; rintro e w' ⟨rfl, hg⟩; have c2 := (hg.1.cell (p := ⟨A, 3, none⟩) hl).trans c1))
      go_roundw
      case rel => exact ⟨PlanKept.next ⟨hgw, hA⟩ hg, 13, rfl, rfl, rfl, rfl⟩
      case measure => simp [intOf]
    | 13, _, ⟨e1, e2, e3, e4⟩ =>
      subst e1 e2 e3 e4
      have c0 := hA.cell (j := 0) (v := .int .i64 b) rfl
      have c3 := hA.cell (j := 3) (v := .int .i64 (wrap64 (b + 7))) rfl
      have q4 : wrap64 (wrap64 (b + 7) - b) = 7 := wrap_diff0 b 7 (by omega) (by omega)
      go_wp2_with (go_at_call 18; refine (wakes_g w0 _ (by assumption)).mono ?_; rintro e w' ⟨rfl, hg⟩)
      go_ret
      exact ⟨rfl, by assumption⟩
end Go.Proofs.YtpalgphkpmhpjaaDoor
