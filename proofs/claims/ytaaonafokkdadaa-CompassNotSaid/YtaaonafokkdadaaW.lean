/-
  Sums and sizes of whatever words (a NaN's bits are drawn); the law's own whole.
-/
import Derived.Test.YtaaonafokkdadaaU
namespace Go.Proofs.Ytaaonafokkdadaa
open Go Go.RowKit Go.Shelf
attribute [local go_sem] Oper.semAt_some run_store_complex unary_neg_float unary_neg_complex

/-- What an operation gives whose answer may be a NaN that is drawn. -/
structure Drawn (f : World → Nat) (g : World → World) : Prop where
  lt : ∀ w, f w < 18446744073709551616
  at_ : ∀ w, g w = w ∨ g w = w.drew
theorem Drawn.good {f : World → Nat} {g : World → World} (h : Drawn f g) {w0 w : World} (hg : Good w0 w) : Good w0 (g w) := by
  rcases h.at_ w with e | e
  · rw [e]; exact hg
  · rw [e]; exact hg.drew
theorem nan_lt (a b t : Nat) : (Question.nanBits .f64 a b).cut t < 18446744073709551616 := by
  simp only [Question.cut]; omega
theorem nan_lt2 (m : Bool) (a b t : Nat) : (Question.nanMinMax .f64 m a b).cut t < 18446744073709551616 := by
  simp only [Question.cut]; omega
theorem add_any (a b : Nat) (_ha : a < 18446744073709551616) : ∃ f g, Drawn f g ∧ ∀ (P : Program) (w : World), (binOp .add 22 (.float .f64 a) (.float .f64 b)).run P w = .ok (.float .f64 (f w)) (g w) := by
  cases h : floatBits .add .f64 a b with
  | some r =>
    refine ⟨fun _ => r, fun w => w, ⟨fun _ => ?_, fun _ => .inl rfl⟩, fun P w => run_float_arith w .add 22 .f64 a b r h⟩
    exact of_decide_eq_true (floatBits_wf h)
  | none =>
    refine ⟨fun w => (Question.nanBits .f64 a b).cut (w.tape w.drawn (.nanBits .f64 a b)), fun w => w.drew, ⟨fun w => nan_lt _ _ _, fun _ => .inr rfl⟩, fun P w => ?_⟩
    have h2 : FloatKind.f64.format.add a b = none := h
    have h3 : (Question.nanBits .f64 a b).forced = false := rfl
    simp only [binOp]
    simp [Op.floatArith, h2, h3]
theorem max_any (a b : Nat) (ha : a < 18446744073709551616) (hb : b < 18446744073709551616) : ∃ f g, Drawn f g ∧ ∀ (P : Program) (ts : Array TypeId) (t : TypeId) (w : World), (Builtin.max_ ts t #[.float .f64 a, .float .f64 b]).run P w = .ok (.float .f64 (f w)) (g w) := by
  cases ho : FloatKind.f64.format.order a b with
  | none =>
    refine ⟨fun w => (Question.nanMinMax .f64 true a b).cut (w.tape w.drawn (.nanMinMax .f64 true a b)), fun w => w.drew, ⟨fun w => nan_lt2 _ _ _ _, fun _ => .inr rfl⟩, fun P ts t w => ?_⟩
    have h3 : (Question.nanMinMax .f64 true a b).forced = false := rfl
    simp [Builtin.max_, Builtin.max2, ho, h3]
  | some o =>
    cases o with
    | lt => exact ⟨fun _ => b, fun w => w, ⟨fun _ => hb, fun _ => .inl rfl⟩, fun P ts t w => by simp [Builtin.max_, Builtin.max2, ho]⟩
    | gt => exact ⟨fun _ => a, fun w => w, ⟨fun _ => ha, fun _ => .inl rfl⟩, fun P ts t w => by simp [Builtin.max_, Builtin.max2, ho]⟩
    | eq => exact ⟨fun _ => if (FloatKind.f64.decode a).neg then b else a, fun w => w, ⟨fun _ => by split <;> assumption, fun _ => .inl rfl⟩, fun P ts t w => by simp [Builtin.max_, Builtin.max2, ho]⟩

theorem bits_lo : fl (-20000) = 13894598808949489664 := by decide +kernel
theorem bits_hi : fl 20000 = 4671226772094713856 := by decide +kernel
theorem fl_lo : Fl 13894598808949489664 (-20000) := by have := fl_Fl (-20000) (by decide); rwa [bits_lo] at this
theorem fl_hi : Fl 4671226772094713856 20000 := by have := fl_Fl 20000 (by decide); rwa [bits_hi] at this
set_option maxHeartbeats 1000000 in
theorem lawwhole_yes (b : Nat) (n : Int) (h : Fl b n) (h1 : -20000 ≤ n) (h2 : n ≤ 20000) (w : World) :
    Calls Try.prog 21 #[.float .f64 b] w fun e w' => e = .returned (.bool true) ∧ w = w' := by
  have o1 : FloatKind.f64.format.order b 13894598808949489664 = some .gt ∨ FloatKind.f64.format.order b 13894598808949489664 = some .eq := by
    rw [ord h fl_lo]
    rcases Int.lt_or_eq_of_le h1 with c | c
    · rw [cmp_gt c]; exact .inl rfl
    · rw [cmp_eq c.symm]; exact .inr rfl
  have o2 : FloatKind.f64.format.order b 4671226772094713856 = some .lt ∨ FloatKind.f64.format.order b 4671226772094713856 = some .eq := by
    rw [ord h fl_hi]
    rcases Int.lt_or_eq_of_le h2 with c | c
    · rw [cmp_lt c]; exact .inl rfl
    · rw [cmp_eq c]; exact .inr rfl
  have o3 : FloatKind.f64.format.order (floatOfInt .f64 n) b = some .eq := by
    rw [floatOf_fl, ord (fl_Fl n (by omega)) h, cmp_eq rfl]
  have c1 := run_convert_float_int (P := Try.prog) w 22 3 .f64 .i64 b n (by kernel_rfl) Try.underlying3 (h.toInt (by omega))
  clear h
  rcases o1 with o1 | o1 <;> rcases o2 with o2 | o2
  all_goals
    go_enter Try.func21, Try.ntmps21
    go_wp2
    go_ret
    exact ⟨rfl, rfl⟩
set_option maxHeartbeats 1000000 in
theorem lawwhole_no (b : Nat) (hb : b < 18446744073709551616) (h : ¬ ∃ n, Fl b n ∧ -20000 ≤ n ∧ n ≤ 20000) (w : World) :
    Calls Try.prog 21 #[.float .f64 b] w fun e w' => e = .returned (.bool false) ∧ w = w' := by
  have key : ∀ o p, FloatKind.f64.format.order b 13894598808949489664 = some o → o ≠ .lt → FloatKind.f64.format.order b 4671226772094713856 = some p → p ≠ .gt → ∃ n, floatToIntVal .f64 b .i64 = some n ∧ (FloatKind.f64.format.order (floatOfInt .f64 n) b == some .eq) = false :=
    fun o p ho ho2 hp hp2 => between_whole hb fl_lo fl_hi (by omega) (by omega) ho ho2 hp hp2 h
  have K := Lib.hid key
  have r1 : ∃ o, FloatKind.f64.format.order b 13894598808949489664 = o := ⟨_, rfl⟩
  have r2 : ∃ o, FloatKind.f64.format.order b 4671226772094713856 = o := ⟨_, rfl⟩
  obtain ⟨o, ho⟩ := r1
  obtain ⟨p, hp⟩ := r2
  clear h hb key
  have low : o = none ∨ o = some .lt → Calls Try.prog 21 #[.float .f64 b] w fun e w' => e = .returned (.bool false) ∧ w = w' := by
    rintro (rfl | rfl)
    all_goals
      clear K hp
      go_enter Try.func21, Try.ntmps21
      go_wp2
      go_ret
      exact ⟨rfl, rfl⟩
  have high : o = some .eq ∨ o = some .gt → p = none ∨ p = some .gt → Calls Try.prog 21 #[.float .f64 b] w fun e w' => e = .returned (.bool false) ∧ w = w' := by
    rintro (rfl | rfl) (rfl | rfl)
    all_goals
      clear K low
      go_enter Try.func21, Try.ntmps21
      go_wp2
      go_ret
      exact ⟨rfl, rfl⟩
  have mid : o = some .eq ∨ o = some .gt → p = some .lt ∨ p = some .eq → Calls Try.prog 21 #[.float .f64 b] w fun e w' => e = .returned (.bool false) ∧ w = w' := by
    intro hoo hpp
    have : ∃ n, floatToIntVal .f64 b .i64 = some n ∧ (FloatKind.f64.format.order (floatOfInt .f64 n) b == some .eq) = false := by
      rcases hoo with rfl | rfl <;> rcases hpp with rfl | rfl <;> exact K.out _ _ ho (by decide) hp (by decide)
    obtain ⟨n, hn, hne⟩ := this
    have c1 := run_convert_float_int (P := Try.prog) w 22 3 .f64 .i64 b n (by kernel_rfl) Try.underlying3 hn
    clear K low high hn
    rcases hoo with rfl | rfl <;> rcases hpp with rfl | rfl
    all_goals
      go_enter Try.func21, Try.ntmps21
      go_wp2
      go_ret
      exact ⟨rfl, rfl⟩
  rcases o with _ | (_ | _ | _)
  · exact low (.inl rfl)
  · exact low (.inr rfl)
  · rcases p with _ | (_ | _ | _)
    · exact high (.inl rfl) (.inl rfl)
    · exact mid (.inl rfl) (.inl rfl)
    · exact mid (.inl rfl) (.inr rfl)
    · exact high (.inl rfl) (.inr rfl)
  · rcases p with _ | (_ | _ | _)
    · exact high (.inr rfl) (.inl rfl)
    · exact mid (.inr rfl) (.inl rfl)
    · exact mid (.inr rfl) (.inr rfl)
    · exact high (.inr rfl) (.inr rfl)
end Go.Proofs.Ytaaonafokkdadaa
