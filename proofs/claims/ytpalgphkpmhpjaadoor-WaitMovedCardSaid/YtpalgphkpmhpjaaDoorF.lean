/-
  The law WaitMoved: the walk, with the plain facts it rests on.
-/
import Derived.Test.YtpalgphkpmhpjaaDoorC
import Derived.Deep.QuietTactic
import Derived.BigQuiet
namespace Go.Proofs.YtpalgphkpmhpjaaDoor
open Go.RowKit Go.Shelf
attribute [local go_sem] run_eq_four

def mn3 (x y z : Int) : Int := if z < (if y < x then y else x) then z else (if y < x then y else x)
def mx4 (x y z u : Int) : Int := if u > (if z > (if y > x then y else x) then z else (if y > x then y else x)) then u else (if z > (if y > x then y else x) then z else (if y > x then y else x))
theorem run_mn3 (ts : Array TypeId) (t : TypeId) (x y z : Int) (w : World) : (Builtin.min_ ts t #[.int .i64 x, .int .i64 y, .int .i64 z]).run Tryd.prog w = .ok (.int .i64 (mn3 x y z)) w := by
  simp [Builtin.min_, Builtin.min2, mn3]
theorem run_mx4 (ts : Array TypeId) (t : TypeId) (x y z u : Int) (w : World) : (Builtin.max_ ts t #[.int .i64 x, .int .i64 y, .int .i64 z, .int .i64 u]).run Tryd.prog w = .ok (.int .i64 (mx4 x y z u)) w := by
  simp [Builtin.max_, Builtin.max2, mx4]
attribute [local go_sem] run_mx4
theorem mn3_le (x y z : Int) : mn3 x y z ≤ x ∧ mn3 x y z ≤ y ∧ mn3 x y z ≤ z := by
  unfold mn3; repeat' split
  all_goals omega
theorem mx4_ge (x y z u : Int) : x ≤ mx4 x y z u ∧ y ≤ mx4 x y z u ∧ z ≤ mx4 x y z u ∧ u ≤ mx4 x y z u := by
  unfold mx4; repeat' split
  all_goals omega
theorem wrap64_idF {x : Int} (h1 : -9223372036854775808 ≤ x) (h2 : x ≤ 9223372036854775807) : wrap64 x = x := by unfold wrap64; omega

theorem plan_b (w0 : World) (b : Int) (w : World) (h1 : -4398046511104 ≤ b) (h2 : b ≤ 4398046511104) (h : Good w0 w) : Calls Tryd.prog 14 #[.int .i64 b] w fun e w' => e = .returned (.agg #[.int .i64 b, .int .i64 (b + 1), .int .i64 (b + 3), .int .i64 (b + 7)]) ∧ Good w0 w' := by
  have := plan_g w0 b w h
  rwa [wrap64_idF (x := b + 1) (by omega) (by omega), wrap64_idF (x := b + 3) (by omega) (by omega), wrap64_idF (x := b + 7) (by omega) (by omega)] at this

theorem due_later {s t n l : Int} (h1 : -2199023255552 ≤ n - s) (h2 : n - s ≤ 2199023255552) (h3 : 0 ≤ l) (h4 : l ≤ 1099511627776) (h : dueB s t n = true) : dueB s t (n + l) = true := by
  unfold dueB at h ⊢
  rw [wrap64_idF (by omega) (by omega)] at h ⊢
  simp only [Bool.and_eq_true, decide_eq_true_eq] at h ⊢
  omega
theorem over_later {s t n l : Int} (h1 : -2199023255552 ≤ n - s) (h2 : n - s ≤ 2199023255552) (h3 : 0 ≤ l) (h4 : l ≤ 1099511627776) (h : overB s t n = true) : overB s t (n + l) = true := by
  unfold overB at h ⊢
  rw [wrap64_idF (by omega) (by omega)] at h ⊢
  simp only [Bool.and_eq_true, decide_eq_true_eq] at h ⊢
  omega

/-- What is known at the head of each round of the law's loop. -/
def Kept (w0 : World) (A B : Nat) (s b : Int) (wr : World) : Prop :=
  Good w0 wr ∧ Row wr A #[.int .i64 s, .int .i64 (s + 1), .int .i64 (s + 3), .int .i64 (s + 7)] 24 ∧ Row wr B #[.int .i64 (s + b), .int .i64 (s + b + 1), .int .i64 (s + b + 3), .int .i64 (s + b + 7)] 24
def RelM (w0 : World) (A B : Nat) (s b : Int) (i : Value) (wr : World) : Prop :=
  Kept w0 A B s b wr ∧ (i = .int .i64 0 ∨ i = .int .i64 1 ∨ i = .int .i64 2 ∨ i = .int .i64 3 ∨ i = .int .i64 4)

set_option maxRecDepth 100000 in
set_option maxHeartbeats 8000000 in
theorem moved_case (s t n b l : Int) (w0 : World) (w : World) (h : Good w0 w) (r1 : -1099511627776 ≤ s) (r2 : s ≤ 1099511627776) (r3 : -1099511627776 ≤ n) (r4 : n ≤ 1099511627776)
    (r5 : -1099511627776 ≤ b) (r6 : b ≤ 1099511627776) (_r7 : 0 ≤ l) (_r8 : l ≤ 1099511627776) (c1 : decide (mn3 s n b < -1099511627776) = false) (c2 : decide (1099511627776 < mx4 s n b l) = false) (c3 : decide (l < 0) = false)
    (D O : Bool) (hD : dueB s t n = D) (hO : overB s t n = O) (hDD : D = true → dueB s t (n + l) = true) (hOO : O = true → overB s t (n + l) = true) :
    Calls Tryd.prog 6 #[.int .i64 s, .int .i64 t, .int .i64 n, .int .i64 b, .int .i64 l] w fun e w' => e = .returned (.bool true) ∧ Good w0 w' := by
  have hmn := fun (ts : Array TypeId) (t : TypeId) (w : World) => run_mn3 ts t s n b w
  have hdiff : n + b - (s + b) = n - s := by omega
  have m1 : dueB (s + b) t (n + b) = dueB s t n := by unfold dueB; rw [hdiff]
  have m2 : overB (s + b) t (n + b) = overB s t n := by unfold overB; rw [hdiff]
  have m3 : leftF (s + b) t (n + b) = leftF s t n := by unfold leftF; rw [hdiff]
  clear hdiff
  have e1 : s + b - s = b := by omega
  have e2 : s + b + 1 - (s + 1) = b := by omega
  have e3 : s + b + 3 - (s + 3) = b := by omega
  have e4 : s + b + 7 - (s + 7) = b := by omega
  have E1 := Lib.hid e1
  have E2 := Lib.hid e2
  have E3 := Lib.hid e3
  have E4 := Lib.hid e4
  clear e1 e2 e3 e4
  cases D <;> cases O <;> simp only [forall_const, Bool.false_eq_true, false_implies] at hDD hOO
  all_goals
    go_enter Tryd.func6, Tryd.ntmps6
    go_wp2_with (first
      | (go_at_call 8; refine (wait_g w0 _ _ (by assumption)).mono ?_; rintro e w' ⟨rfl, hg⟩)
      | (go_at_call 10; refine (due_g w0 _ _ _ _ (by assumption)).mono ?_; rintro e w' ⟨rfl, hg⟩)
      | (go_at_call 12; refine (over_g w0 _ _ _ _ (by assumption)).mono ?_; rintro e w' ⟨rfl, hg⟩)
      | (go_at_call 14; refine (plan_b w0 _ _ (by omega) (by omega) (by assumption)).mono ?_; rintro e w' ⟨rfl, hg⟩)
      | (go_at_call 16; refine (left_g w0 _ _ _ _ (by assumption)).mono ?_; rintro e w' ⟨rfl, hg⟩)
      | (go_at_call 18; refine (wakes_g w0 _ (by assumption)).mono ?_; rintro e w' ⟨rfl, hg⟩))
    have hrow1 := (Row.new w' #[.int .i64 s, .int .i64 (s + 1), .int .i64 (s + 3), .int .i64 (s + 7)] 24).alloc (.cells #[.int .i64 (s + b), .int .i64 (s + b + 1), .int .i64 (s + b + 3), .int .i64 (s + b + 7)] 24)
    have hrow2 := Row.new (w'.alloc (.cells #[.int .i64 s, .int .i64 (s + 1), .int .i64 (s + 3), .int .i64 (s + 7)] 24)) #[.int .i64 (s + b), .int .i64 (s + b + 1), .int .i64 (s + b + 3), .int .i64 (s + b + 7)] 24
    rw [World.size_alloc] at hrow2
    have hgood : Good w0 ((w'.alloc (.cells #[.int .i64 s, .int .i64 (s + 1), .int .i64 (s + 3), .int .i64 (s + 7)] 24)).alloc (.cells #[.int .i64 (s + b), .int .i64 (s + b + 1), .int .i64 (s + b + 3), .int .i64 (s + b + 7)] 24)) :=
      hg.below (((Below.refl _ w').alloc (Nat.le_refl _) _).alloc (by simp) _)
    go_loopw [13] (fun i wr => RelM w0 w'.heap.size (w'.heap.size + 1) s b i wr) (fun i _ => 4 - (intOf i).toNat)
    case atStart => exact ⟨⟨hgood, hrow1, hrow2⟩, .inl rfl⟩
    case round =>
      obtain ⟨⟨hgw, hA, hB⟩, hi⟩ := hrel
      clear hrow1 hrow2 hgood
      rcases hi with rfl | rfl | rfl | rfl | rfl
      · have hc1 := hA.cell (j := 0) (v := .int .i64 (s)) rfl
        have hc2 := hB.cell (j := 0) (v := .int .i64 (s + b)) rfl
        have eE := E1.out
        go_wp2
        go_quiet (fail)
        go_wp2
        go_roundw
        case rel => exact ⟨⟨hgw.below ⟨rfl, rfl, rfl, Nat.le_refl _, fun _ _ => rfl⟩, hA, hB⟩, .inr (.inl rfl)⟩
        case measure => simp [intOf]
      · have hc1 := hA.cell (j := 1) (v := .int .i64 (s + 1)) rfl
        have hc2 := hB.cell (j := 1) (v := .int .i64 (s + b + 1)) rfl
        have eE := E2.out
        go_wp2
        go_quiet (fail)
        go_wp2
        go_roundw
        case rel => exact ⟨⟨hgw.below ⟨rfl, rfl, rfl, Nat.le_refl _, fun _ _ => rfl⟩, hA, hB⟩, .inr (.inr (.inl rfl))⟩
        case measure => simp [intOf]
      · have hc1 := hA.cell (j := 2) (v := .int .i64 (s + 3)) rfl
        have hc2 := hB.cell (j := 2) (v := .int .i64 (s + b + 3)) rfl
        have eE := E3.out
        go_wp2
        go_quiet (fail)
        go_wp2
        go_roundw
        case rel => exact ⟨⟨hgw.below ⟨rfl, rfl, rfl, Nat.le_refl _, fun _ _ => rfl⟩, hA, hB⟩, .inr (.inr (.inr (.inl rfl)))⟩
        case measure => simp [intOf]
      · have hc1 := hA.cell (j := 3) (v := .int .i64 (s + 7)) rfl
        have hc2 := hB.cell (j := 3) (v := .int .i64 (s + b + 7)) rfl
        have eE := E4.out
        go_wp2
        go_quiet (fail)
        go_wp2
        go_roundw
        case rel => exact ⟨⟨hgw.below ⟨rfl, rfl, rfl, Nat.le_refl _, fun _ _ => rfl⟩, hA, hB⟩, .inr (.inr (.inr (.inr rfl)))⟩
        case measure => simp [intOf]
      · go_wp2_with (go_at_call 18; refine (wakes_g w0 _ (by assumption)).mono ?_; rintro e w' ⟨rfl, hg⟩)
        go_ret
        exact ⟨rfl, by assumption⟩

set_option maxRecDepth 100000 in
set_option maxHeartbeats 2000000 in
theorem moved_out (s t n b l : Int) (w0 : World) (w : World) (h : Good w0 w) (hc : mn3 s n b < -1099511627776 ∨ 1099511627776 < mx4 s n b l ∨ l < 0) :
    Calls Tryd.prog 6 #[.int .i64 s, .int .i64 t, .int .i64 n, .int .i64 b, .int .i64 l] w fun e w' => e = .returned (.bool true) ∧ Good w0 w' := by
  have hmn := fun (ts : Array TypeId) (t : TypeId) (w : World) => run_mn3 ts t s n b w
  by_cases c1 : mn3 s n b < -1099511627776
  · clear hc
    go_enter Tryd.func6, Tryd.ntmps6
    go_wp2_with (first
      | (go_at_call 8; refine (wait_g w0 _ _ (by assumption)).mono ?_; rintro e w' ⟨rfl, hg⟩)
      | (go_at_call 10; refine (due_g w0 _ _ _ _ (by assumption)).mono ?_; rintro e w' ⟨rfl, hg⟩)
      | (go_at_call 12; refine (over_g w0 _ _ _ _ (by assumption)).mono ?_; rintro e w' ⟨rfl, hg⟩)
      | (go_at_call 14; refine (plan_b w0 _ _ (by omega) (by omega) (by assumption)).mono ?_; rintro e w' ⟨rfl, hg⟩)
      | (go_at_call 16; refine (left_g w0 _ _ _ _ (by assumption)).mono ?_; rintro e w' ⟨rfl, hg⟩)
      | (go_at_call 18; refine (wakes_g w0 _ (by assumption)).mono ?_; rintro e w' ⟨rfl, hg⟩))
    go_ret
    exact ⟨rfl, by assumption⟩
  · by_cases c2 : 1099511627776 < mx4 s n b l
    · clear hc
      go_enter Tryd.func6, Tryd.ntmps6
      go_wp2_with (first
        | (go_at_call 8; refine (wait_g w0 _ _ (by assumption)).mono ?_; rintro e w' ⟨rfl, hg⟩)
        | (go_at_call 10; refine (due_g w0 _ _ _ _ (by assumption)).mono ?_; rintro e w' ⟨rfl, hg⟩)
        | (go_at_call 12; refine (over_g w0 _ _ _ _ (by assumption)).mono ?_; rintro e w' ⟨rfl, hg⟩)
        | (go_at_call 14; refine (plan_b w0 _ _ (by omega) (by omega) (by assumption)).mono ?_; rintro e w' ⟨rfl, hg⟩)
        | (go_at_call 16; refine (left_g w0 _ _ _ _ (by assumption)).mono ?_; rintro e w' ⟨rfl, hg⟩)
        | (go_at_call 18; refine (wakes_g w0 _ (by assumption)).mono ?_; rintro e w' ⟨rfl, hg⟩))
      go_ret
      exact ⟨rfl, by assumption⟩
    · have c3 : l < 0 := by omega
      clear hc
      go_enter Tryd.func6, Tryd.ntmps6
      go_wp2_with (first
        | (go_at_call 8; refine (wait_g w0 _ _ (by assumption)).mono ?_; rintro e w' ⟨rfl, hg⟩)
        | (go_at_call 10; refine (due_g w0 _ _ _ _ (by assumption)).mono ?_; rintro e w' ⟨rfl, hg⟩)
        | (go_at_call 12; refine (over_g w0 _ _ _ _ (by assumption)).mono ?_; rintro e w' ⟨rfl, hg⟩)
        | (go_at_call 14; refine (plan_b w0 _ _ (by omega) (by omega) (by assumption)).mono ?_; rintro e w' ⟨rfl, hg⟩)
        | (go_at_call 16; refine (left_g w0 _ _ _ _ (by assumption)).mono ?_; rintro e w' ⟨rfl, hg⟩)
        | (go_at_call 18; refine (wakes_g w0 _ (by assumption)).mono ?_; rintro e w' ⟨rfl, hg⟩))
      go_ret
      exact ⟨rfl, by assumption⟩

theorem moved_walk (s t n b l : Int) (w0 : World) (w : World) (h : Good w0 w) :
    Calls Tryd.prog 6 #[.int .i64 s, .int .i64 t, .int .i64 n, .int .i64 b, .int .i64 l] w fun e w' => e = .returned (.bool true) ∧ Good w0 w' := by
  by_cases hc : mn3 s n b < -1099511627776 ∨ 1099511627776 < mx4 s n b l ∨ l < 0
  · exact moved_out s t n b l w0 w h hc
  · have c1 : ¬ mn3 s n b < -1099511627776 := fun c => hc (.inl c)
    have c2 : ¬ 1099511627776 < mx4 s n b l := fun c => hc (.inr (.inl c))
    have c3 : ¬ l < 0 := fun c => hc (.inr (.inr c))
    obtain ⟨a1, a2, a3⟩ := mn3_le s n b
    obtain ⟨a4, a5, a6, a7⟩ := mx4_ge s n b l
    exact moved_case s t n b l w0 w h (by omega) (by omega) (by omega) (by omega) (by omega) (by omega) (by omega) (by omega) (decide_eq_false c1) (decide_eq_false c2) (decide_eq_false c3) _ _ rfl rfl
      (due_later (by omega) (by omega) (by omega) (by omega)) (over_later (by omega) (by omega) (by omega) (by omega))
end Go.Proofs.YtpalgphkpmhpjaaDoor
