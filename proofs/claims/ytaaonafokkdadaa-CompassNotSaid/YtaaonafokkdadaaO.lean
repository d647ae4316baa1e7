/-
  The reference's functions: whole, Of, point.
  Conditions: none beyond those that each lemma states.
-/
import Derived.Test.YtaaonafokkdadaaN
namespace Go.Proofs.Ytaaonafokkdadaa
open Go Go.RowKit Go.Shelf
theorem unary_neg_float (b : Nat) : Op.unary .neg (.float .f64 b) = pure (.float .f64 (ng b)) := rfl
attribute [local go_sem] Oper.semAt_some run_store_complex unary_neg_float

theorem order_eq_symm {d e : Ieee.Datum} (h : d.order e = some .eq) : e.order d = some .eq := by
  cases d with
  | nan s t => cases h
  | infinity s =>
    cases e with
    | nan s t => cases h
    | infinity t =>
      cases s <;> cases t <;> first | rfl | (exact absurd h (by decide))
    | number t n j => cases s <;> cases h
  | number s m i =>
    cases e with
    | nan s t => cases h
    | infinity t => cases t <;> cases h
    | number t n j =>
      have h2 : compare (Ieee.signed s m (i - min i j).toNat) (Ieee.signed t n (j - min i j).toNat) = .eq := Option.some.inj h
      show some (compare (Ieee.signed t n (j - min j i).toNat) (Ieee.signed s m (i - min j i).toNat)) = some .eq
      rw [Int.min_comm j i]
      generalize Ieee.signed s m (i - min i j).toNat = A at *
      generalize Ieee.signed t n (j - min i j).toNat = B at *
      rcases Int.lt_trichotomy A B with c | c | c
      · rw [cmp_lt c] at h2; cases h2
      · rw [cmp_eq c.symm]
      · rw [cmp_gt c] at h2; cases h2

theorem floatOf_fl (n : Int) : floatOfInt .f64 n = fl n := rfl
/-- How a word that lies between two whole numbers is made whole, and told apart from what comes of it. -/
theorem between_whole {b : Nat} (hb : b < 18446744073709551616) {x y : Nat} {lo hi : Int} (hx : Fl x lo) (hy : Fl y hi) (hl : -1000000 ≤ lo) (hh : hi ≤ 1000000) {o p : Ordering}
    (h1 : FloatKind.f64.format.order b x = some o) (ho : o ≠ .lt) (h2 : FloatKind.f64.format.order b y = some p) (hp : p ≠ .gt) (hno : ¬ ∃ n, Fl b n ∧ lo ≤ n ∧ n ≤ hi) :
    ∃ n, floatToIntVal .f64 b .i64 = some n ∧ (FloatKind.f64.format.order (fl n) b == some .eq) = false := by
  have hs : Small b 1000000 := small_between hb (by omega) hx.reads hy.reads (by omega) (by omega) h1 ho h2 hp
  obtain ⟨n, hn, hi', -, heq⟩ := hs.whole (by omega)
  refine ⟨n, hi', ?_⟩
  rw [beq_eq_false_iff_ne]
  intro he
  have hf : Fl b n := heq _ (is_fl n (by omega)) (order_eq_symm he)
  refine hno ⟨n, hf, ?_, ?_⟩
  · rw [ord hf hx] at h1
    have h1' : compare n lo = o := Option.some.inj h1
    rcases Int.lt_or_le n lo with c | c
    · rw [cmp_lt c] at h1'; exact absurd h1'.symm ho
    · exact c
  · rw [ord hf hy] at h2
    have h2' : compare n hi = p := Option.some.inj h2
    rcases Int.lt_or_le hi n with c | c
    · rw [cmp_gt c] at h2'; exact absurd h2'.symm hp
    · exact c

set_option maxHeartbeats 1000000 in
theorem refwhole_yes (b : Nat) (n lo hi : Int) (h : Fl b n) (h1 : lo ≤ n) (h2 : n ≤ hi) (hl : -1000000 ≤ lo) (hh : hi ≤ 1000000) (w : World) :
    Calls Try.prog 25 #[.float .f64 b, .int .i64 lo, .int .i64 hi] w fun e w' => e = .returned (.bool true) ∧ w = w' := by
  have o1 : FloatKind.f64.format.order b (floatOfInt .f64 lo) = some .gt ∨ FloatKind.f64.format.order b (floatOfInt .f64 lo) = some .eq := by
    rw [floatOf_fl, ord h (fl_Fl lo (by omega))]
    rcases Int.lt_or_eq_of_le h1 with c | c
    · rw [cmp_gt c]; exact .inl rfl
    · rw [cmp_eq c.symm]; exact .inr rfl
  have o2 : FloatKind.f64.format.order b (floatOfInt .f64 hi) = some .lt ∨ FloatKind.f64.format.order b (floatOfInt .f64 hi) = some .eq := by
    rw [floatOf_fl, ord h (fl_Fl hi (by omega))]
    rcases Int.lt_or_eq_of_le h2 with c | c
    · rw [cmp_lt c]; exact .inl rfl
    · rw [cmp_eq c]; exact .inr rfl
  have o3 : FloatKind.f64.format.order (floatOfInt .f64 n) b = some .eq := by
    rw [floatOf_fl, ord (fl_Fl n (by omega)) h, cmp_eq rfl]
  have c1 := run_convert_float_int (P := Try.prog) w 22 3 .f64 .i64 b n (by kernel_rfl) Try.underlying3 (h.toInt (by omega))
  clear h
  rcases o1 with o1 | o1 <;> rcases o2 with o2 | o2
  all_goals
    go_enter Try.func25, Try.ntmps25
    go_wp2
    go_ret
    exact ⟨rfl, rfl⟩

set_option maxHeartbeats 1000000 in
theorem refwhole_no (b : Nat) (hb : b < 18446744073709551616) (lo hi : Int) (hl : -1000000 ≤ lo) (hl2 : lo ≤ 1000000) (hh : hi ≤ 1000000) (hh2 : -1000000 ≤ hi) (h : ¬ ∃ n, Fl b n ∧ lo ≤ n ∧ n ≤ hi) (w : World) :
    Calls Try.prog 25 #[.float .f64 b, .int .i64 lo, .int .i64 hi] w fun e w' => e = .returned (.bool false) ∧ w = w' := by
  obtain ⟨LO, hLO⟩ : ∃ LO, floatOfInt .f64 lo = LO := ⟨_, rfl⟩
  obtain ⟨HI, hHI⟩ : ∃ HI, floatOfInt .f64 hi = HI := ⟨_, rfl⟩
  have fLO : Fl LO lo := by rw [← hLO]; exact fl_Fl lo (by omega)
  have fHI : Fl HI hi := by rw [← hHI]; exact fl_Fl hi (by omega)
  have key : ∀ o p, FloatKind.f64.format.order b LO = some o → o ≠ .lt → FloatKind.f64.format.order b HI = some p → p ≠ .gt → ∃ n, floatToIntVal .f64 b .i64 = some n ∧ (FloatKind.f64.format.order (floatOfInt .f64 n) b == some .eq) = false :=
    fun o p ho ho2 hp hp2 => between_whole hb fLO fHI hl hh ho ho2 hp hp2 h
  have K := Lib.hid key
  have r1 : ∃ o, FloatKind.f64.format.order b LO = o := ⟨_, rfl⟩
  have r2 : ∃ o, FloatKind.f64.format.order b HI = o := ⟨_, rfl⟩
  obtain ⟨o, ho⟩ := r1
  obtain ⟨p, hp⟩ := r2
  clear h hb fLO fHI key
  have low : o = none ∨ o = some .lt → Calls Try.prog 25 #[.float .f64 b, .int .i64 lo, .int .i64 hi] w fun e w' => e = .returned (.bool false) ∧ w = w' := by
    rintro (rfl | rfl)
    all_goals
      clear K hp
      go_enter Try.func25, Try.ntmps25
      go_wp2
      go_ret
      exact ⟨rfl, rfl⟩
  have high : o = some .eq ∨ o = some .gt → p = none ∨ p = some .gt → Calls Try.prog 25 #[.float .f64 b, .int .i64 lo, .int .i64 hi] w fun e w' => e = .returned (.bool false) ∧ w = w' := by
    rintro (rfl | rfl) (rfl | rfl)
    all_goals
      clear K low
      go_enter Try.func25, Try.ntmps25
      go_wp2
      go_ret
      exact ⟨rfl, rfl⟩
  have mid : o = some .eq ∨ o = some .gt → p = some .lt ∨ p = some .eq → Calls Try.prog 25 #[.float .f64 b, .int .i64 lo, .int .i64 hi] w fun e w' => e = .returned (.bool false) ∧ w = w' := by
    intro hoo hpp
    have : ∃ n, floatToIntVal .f64 b .i64 = some n ∧ (FloatKind.f64.format.order (floatOfInt .f64 n) b == some .eq) = false := by
      rcases hoo with rfl | rfl <;> rcases hpp with rfl | rfl <;> exact K.out _ _ ho (by decide) hp (by decide)
    obtain ⟨n, hn, hne⟩ := this
    have c1 := run_convert_float_int (P := Try.prog) w 22 3 .f64 .i64 b n (by kernel_rfl) Try.underlying3 hn
    clear K low high hn
    rcases hoo with rfl | rfl <;> rcases hpp with rfl | rfl
    all_goals
      go_enter Try.func25, Try.ntmps25
      go_wp2
      go_ret
      exact ⟨rfl, rfl⟩
  rcases o with _ | (_ | _ | _)
  · exact low (.inl rfl)
  · exact low (.inr rfl)
  · rcases p with _ | (_ | _ | _)
    · exact high (.inl rfl) (.inl rfl)
    · exact mid (.inl rfl) (.inl rfl)
    · exact mid (.inl rfl) (.inr rfl)
    · exact high (.inl rfl) (.inr rfl)
  · rcases p with _ | (_ | _ | _)
    · exact high (.inr rfl) (.inl rfl)
    · exact mid (.inr rfl) (.inl rfl)
    · exact mid (.inr rfl) (.inr rfl)
    · exact high (.inr rfl) (.inr rfl)
end Go.Proofs.Ytaaonafokkdadaa
