/-
  Right of whatever words: it answers true just of a point whose parts are whole numbers that sum to a quarter; a word's opposite.
  Conditions: none beyond those that each lemma states.
-/
import Derived.Test.YtaaonafokkdadaaM
namespace Go.Proofs.Ytaaonafokkdadaa
open Go Go.RowKit Go.Shelf
attribute [local go_sem] Oper.semAt_some run_store_complex

theorem read_abs_any (b : Nat) : (∃ s m i, Ieee.double.read b = .number s m i ∧ Ieee.double.read (b % 9223372036854775808) = .number false m i) ∨ (∀ s m i, Ieee.double.read (b % 9223372036854775808) ≠ .number s m i) := by
  cases h : Ieee.double.read b with
  | number s m i => exact .inl ⟨s, m, i, rfl, read_abs h⟩
  | infinity s =>
    refine .inr fun s' m i e => ?_
    unfold Ieee.Format.read at h e
    simp only [double_sign, double_binade, double_inf, double_least] at h e
    rw [Nat.mod_mod] at e
    generalize b % 9223372036854775808 = r at *
    by_cases c1 : r < 4503599627370496
    · rw [if_pos c1] at h; cases h
    · rw [if_neg c1] at h e
      by_cases c2 : r < 9218868437227405312
      · rw [if_pos c2] at h; cases h
      · rw [if_neg c2] at h e
        split at e <;> cases e
  | nan s t =>
    refine .inr fun s' m i e => ?_
    unfold Ieee.Format.read at h e
    simp only [double_sign, double_binade, double_inf, double_least] at h e
    rw [Nat.mod_mod] at e
    generalize b % 9223372036854775808 = r at *
    by_cases c1 : r < 4503599627370496
    · rw [if_pos c1] at h; cases h
    · rw [if_neg c1] at h e
      by_cases c2 : r < 9218868437227405312
      · rw [if_pos c2] at h; cases h
      · rw [if_neg c2] at h e
        split at e <;> cases e
theorem Small.of_abs {b K : Nat} (hb : b < 18446744073709551616) (h : Small (b % 9223372036854775808) K) : Small b K := by
  obtain ⟨s, m, k, hr, hk, hm, -⟩ := h.is
  rcases read_abs_any b with ⟨s1, m1, i1, e1, e2⟩ | hno
  · rw [hr] at e2
    obtain ⟨rfl, rfl, rfl⟩ := Ieee.Datum.number.inj e2
    refine ⟨hb, s1, m, k, e1, hk, hm, ?_⟩
    rcases read_cases b hb with ⟨s2, m2, i2, e3, hw⟩ | ⟨s2, e3⟩ | ⟨s2, t2, e3⟩
    · rw [e1] at e3
      obtain ⟨rfl, rfl, rfl⟩ := Ieee.Datum.number.inj e3
      rcases hw with ⟨h1, h2⟩ | ⟨E, -, h1, h2, h3, h4⟩
      · exact .inl ⟨h2, by omega⟩
      · exact .inr ⟨E, by omega, h2, h3, h4⟩
    · rw [e1] at e3; cases e3
    · rw [e1] at e3; cases e3
  · exact absurd hr (hno _ _ _)
/-- A word without its sign is not below nought, unless it is no number. -/
theorem abs_low {b : Nat} {o : Ordering} (h : Ieee.double.order (b % 9223372036854775808) 4670232813583204352 = some o) (ho : o ≠ .gt) : ∃ p, Ieee.double.order (b % 9223372036854775808) 0 = some p ∧ p ≠ .lt := by
  rcases read_abs_any b with ⟨s, m, i, -, e⟩ | hno
  · obtain ⟨t, n, j, e0, hj, -, hv⟩ := zero_Fl.reads
    have : Ieee.double.order (b % 9223372036854775808) 0 = some (compare (Ieee.signed false m (i - min i j).toNat) (Ieee.signed t n (j - min i j).toNat)) := by
      unfold Ieee.Format.order
      rw [e, e0]; rfl
    refine ⟨_, this, ?_⟩
    rw [hv _ (Int.min_le_right ..), signed_eq, Int.zero_mul]
    intro hc
    have hp := Int.mul_nonneg (show (0 : Int) ≤ (m : Int) by omega) (Int.le_of_lt (pow_pos' (i - min i j).toNat))
    have h2 : compare ((if false = true then -(m : Int) else (m : Int)) * 2 ^ (i - min i j).toNat) 0 ≠ .lt := by
      rw [if_neg (by decide)]
      rcases Int.lt_or_eq_of_le hp with c | c
      · rw [cmp_gt c]; decide
      · rw [cmp_eq c.symm]; decide
    exact h2 hc
  · exfalso
    obtain ⟨t, n, j, e0, hj, -, hv⟩ := quarter_Fl.reads
    unfold Ieee.Format.order at h
    rw [e0] at h
    cases hd : Ieee.double.read (b % 9223372036854775808) with
    | number s m i => exact hno _ _ _ hd
    | nan s t => rw [hd] at h; cases h
    | infinity s =>
      rw [hd] at h
      cases s
      · have h2 := Option.some.inj h
        exact ho h2.symm
      · unfold Ieee.Format.read at hd
        simp only [double_sign, double_binade, double_inf, double_least] at hd
        rw [Nat.mod_mod, Nat.div_eq_of_lt (Nat.mod_lt b (show 0 < 9223372036854775808 by omega))] at hd
        split at hd
        · cases hd
        · split at hd
          · cases hd
          · split at hd <;> cases hd
theorem small_abs {b : Nat} (hb : b < 18446744073709551616) {o : Ordering} (h : Ieee.double.order (b % 9223372036854775808) 4670232813583204352 = some o) (ho : o ≠ .gt) : Small b 16384 := by
  obtain ⟨p, hp, hp2⟩ := abs_low h ho
  exact Small.of_abs hb (small_between (by have := Nat.mod_lt b (show 0 < 9223372036854775808 by omega); omega) (by omega) zero_Fl.reads quarter_Fl.reads (by omega) (by omega) hp hp2 h ho)

set_option maxHeartbeats 1000000 in
theorem abs_word (b : Nat) (hb : b < 18446744073709551616) (w : World) : Calls Try.prog 27 #[.float .f64 b] w fun e w' => e = .returned (.float .f64 (b % 9223372036854775808)) ∧ w = w' := by
  have h1 := call32 b
  have h2 := bits_abs b hb
  have h3 := call31 (b % 9223372036854775808)
  have g1 : (0 : Int) ≤ (b : Int) := by omega
  have g2 : (b : Int) < 18446744073709551616 := by omega
  generalize b % 9223372036854775808 = r at *
  clear hb
  go_enter Try.func27, Try.ntmps27
  go_wp2
  go_ret
  exact ⟨rfl, rfl⟩
theorem trunc_word (b : Nat) (hd : ∀ s t, Ieee.double.read b ≠ .nan s t) (w : World) : Calls Try.prog 30 #[.float .f64 b] w fun e w' => e = .returned (.float .f64 (Ieee.double.write ((Ieee.double.read b).integral .zero))) ∧ w = w' := by
  have hc := call33 b hd
  generalize Ieee.double.write ((Ieee.double.read b).integral .zero) = r at *
  go_enter Try.func30, Try.ntmps30
  go_wp2
  go_ret
  exact ⟨rfl, rfl⟩

set_option maxHeartbeats 1000000 in
theorem whole_no (b : Nat) (hb : b < 18446744073709551616) (h : ¬ ∃ n, Fl b n ∧ n.natAbs ≤ 16384) (w : World) : Calls Try.prog 26 #[.float .f64 b] w fun e w' => e = .returned (.bool false) ∧ w = w' := by
  have HB := Lib.hid hb
  have HH := Lib.hid h
  clear h hb
  have ho' : ∃ o, FloatKind.f64.format.order (b % 9223372036854775808) 4670232813583204352 = o := ⟨_, rfl⟩
  obtain ⟨o, ho⟩ := ho'
  have big : o = none ∨ o = some .gt → Calls Try.prog 26 #[.float .f64 b] w fun e w' => e = .returned (.bool false) ∧ w = w' := by
    rintro (rfl | rfl)
    all_goals
      go_enter Try.func26, Try.ntmps26
      go_wp2_with (go_at_call 27; refine (abs_word b HB.out _).mono ?_; rintro e w' ⟨rfl, rfl⟩)
      go_ret
      exact ⟨rfl, rfl⟩
  have small : (o = some .lt ∨ o = some .eq) → Calls Try.prog 26 #[.float .f64 b] w fun e w' => e = .returned (.bool false) ∧ w = w' := by
    intro hoo
    have hs : Small b 16384 := by
      rcases hoo with rfl | rfl
      · exact small_abs HB.out ho (by decide)
      · exact small_abs HB.out ho (by decide)
    have hle : (FloatKind.f64.format.order (b % 9223372036854775808) 4670232813583204352 == some .lt || FloatKind.f64.format.order (b % 9223372036854775808) 4670232813583204352 == some .eq) = true := by
      rw [ho]
      rcases hoo with rfl | rfl <;> rfl
    clear ho hoo big
    obtain ⟨n, hn, -, hf, heq⟩ := hs.whole (by omega)
    have hd : ∀ s t, Ieee.double.read b ≠ .nan s t := fun s t e => by
      obtain ⟨s', m, k, e', -⟩ := hs.is
      rw [e] at e'; cases e'
    have HT := Lib.hid (trunc_word b hd)
    have hne : FloatKind.f64.format.order b (Ieee.double.write ((Ieee.double.read b).integral .zero)) ≠ some .eq := fun he =>
      HH.out ⟨n, heq _ hf.reads he, hn⟩
    generalize Ieee.double.write ((Ieee.double.read b).integral .zero) = r at *
    have hne2 : (FloatKind.f64.format.order b r == some .eq) = false := beq_eq_false_iff_ne.2 hne
    clear hne heq hf hn hd hs
    go_enter Try.func26, Try.ntmps26
    go_wp2_with (first
      | (go_at_call 27; refine (abs_word b HB.out _).mono ?_; rintro e w' ⟨rfl, rfl⟩)
      | (go_at_call 30; refine (HT.out _).mono ?_; rintro e w' ⟨rfl, rfl⟩))
    go_ret
    exact ⟨rfl, rfl⟩
  rcases o with _ | (_ | _ | _)
  · exact big (.inl rfl)
  · exact small (.inl rfl)
  · exact small (.inr rfl)
  · exact big (.inr rfl)

/-- A point's two words: whole numbers whose sizes sum to a quarter. -/
def Pt (a b : Nat) : Prop := ∃ x y, Fl a x ∧ Fl b y ∧ x.natAbs + y.natAbs = 16384
theorem right_not (a b : Nat) (ha : a < 18446744073709551616) (hb : b < 18446744073709551616) (h : ¬ Pt a b) (w : World) : Calls Try.prog 12 #[.complex .f64 a b] w fun e w' => e = .returned (.bool false) ∧ w = w' := by
  by_cases wa : ∃ n, Fl a n ∧ n.natAbs ≤ 16384
  · obtain ⟨x, fx, hx⟩ := wa
    by_cases wb : ∃ n, Fl b n ∧ n.natAbs ≤ 16384
    · obtain ⟨y, fy, hy⟩ := wb
      exact right_no a b x y fx fy (by omega) (by omega) (fun he => h ⟨x, y, fx, fy, he⟩) w
    · have d1 : decide (x.natAbs ≤ 16384) = true := decide_eq_true hx
      have HB := Lib.hid (whole_no b hb wb)
      have HA := Lib.hid fx
      clear wb h ha hb fx
      go_enter Try.func12, Try.ntmps12
      go_wp2_with fail
      refine (whole_any a x HA.out (by omega) _).mono ?_; rintro e w' ⟨rfl, rfl⟩
      rw [d1]
      go_wp2_with fail
      refine (HB.out _).mono ?_; rintro e w' ⟨rfl, rfl⟩
      go_wp2
      go_ret
      exact ⟨rfl, rfl⟩
  · have HA := Lib.hid (whole_no a ha wa)
    clear wa h ha hb
    go_enter Try.func12, Try.ntmps12
    go_wp2_with fail
    refine (HA.out _).mono ?_; rintro e w' ⟨rfl, rfl⟩
    go_wp2
    go_ret
    exact ⟨rfl, rfl⟩

/-- A word's opposite. -/
def ng (b : Nat) : Nat := Op.negFloat .f64 b
theorem ng_eq (b : Nat) (hb : b < 18446744073709551616) : ng b = if b < 9223372036854775808 then b + 9223372036854775808 else b - 9223372036854775808 := by
  have e : ng b = b ^^^ 2 ^ 63 := rfl
  have h1 : (b ^^^ 2 ^ 63) % 2 ^ 63 = b % 2 ^ 63 := by rw [Nat.xor_mod_two_pow, Nat.mod_self, Nat.xor_zero]
  have h2 : (b ^^^ 2 ^ 63) / 2 ^ 63 = (b / 2 ^ 63) ^^^ 1 := by rw [Nat.xor_div_two_pow, Nat.div_self (Nat.pow_pos (by omega))]
  rw [e]
  generalize b ^^^ 2 ^ 63 = c at *
  have e63 : (2 : Nat) ^ 63 = 9223372036854775808 := by decide
  rw [e63] at h1 h2
  by_cases hc : b < 9223372036854775808
  · rw [if_pos hc]
    rw [Nat.div_eq_of_lt hc] at h2
    have : (0 : Nat) ^^^ 1 = 1 := rfl
    omega
  · rw [if_neg hc]
    rw [show b / 9223372036854775808 = 1 by omega] at h2
    have : (1 : Nat) ^^^ 1 = 0 := rfl
    omega
theorem ng_lt (b : Nat) (hb : b < 18446744073709551616) : ng b < 18446744073709551616 := by
  rw [ng_eq b hb]; split <;> omega
theorem ng_ng (b : Nat) (hb : b < 18446744073709551616) : ng (ng b) = b := by
  rw [ng_eq _ (ng_lt b hb), ng_eq b hb]
  split <;> split <;> omega
theorem read_ng {b : Nat} (hb : b < 18446744073709551616) {s : Bool} {m : Nat} {i : Int} (h : Ieee.double.read b = .number s m i) : Ieee.double.read (ng b) = .number (!s) m i := by
  unfold Ieee.Format.read at h ⊢
  simp only [double_sign, double_binade, double_inf, double_least] at h ⊢
  have e1 : ng b % 9223372036854775808 = b % 9223372036854775808 := by
    rw [ng_eq b hb]; split <;> omega
  have e2 : (ng b / 9223372036854775808 % 2 == 1) = !(b / 9223372036854775808 % 2 == 1) := by
    rw [ng_eq b hb]
    split
    · rw [show (b + 9223372036854775808) / 9223372036854775808 = 1 by omega, show b / 9223372036854775808 = 0 by omega]; rfl
    · rw [show (b - 9223372036854775808) / 9223372036854775808 = 0 by omega, show b / 9223372036854775808 = 1 by omega]; rfl
  rw [e1, e2]
  generalize b % 9223372036854775808 = r at *
  generalize (b / 9223372036854775808 % 2 == 1) = g at *
  by_cases c1 : r < 4503599627370496
  · rw [if_pos c1] at h ⊢
    injection h with h1 h2 h3
    rw [h1, h2, h3]
  · rw [if_neg c1] at h ⊢
    by_cases c2 : r < 9218868437227405312
    · rw [if_pos c2] at h ⊢
      injection h with h1 h2 h3
      rw [h1, h2, h3]
    · rw [if_neg c2] at h ⊢
      split at h <;> cases h
theorem Fl.neg {b : Nat} {n : Int} (h : Fl b n) (hn : n.natAbs < 9007199254740992) : Fl (ng b) (-n) := by
  obtain ⟨s, m, i, e, hi, hi2, hv⟩ := h.reads
  refine ⟨?_, fun h0 => ?_, ng_lt b h.lt⟩
  · have := Is.opposite h.reads
    rw [e] at this
    rw [read_ng h.lt e]
    exact this
  · have hb := h.word (by omega)
    have w1 := write_num (decide (n < 0)) n.natAbs 0 (by omega) hn (by omega) (by have : n.natAbs.log2 < 53 := (Nat.log2_lt (by omega)).2 (by omega); omega)
    have w2 := write_num (decide (-n < 0)) (-n).natAbs 0 (by omega) (by omega) (by omega) (by have : (-n).natAbs.log2 < 53 := (Nat.log2_lt (by omega)).2 (by omega); omega)
    have hlog : n.natAbs.log2 < 53 := (Nat.log2_lt (by omega)).2 (by omega)
    have hb1 := (frac_bounds n.natAbs (by omega) hn).2
    rw [Int.natAbs_neg] at w2
    rw [fl_eq, Int.natAbs_neg, w2, ng_eq b h.lt, hb, fl_eq, w1]
    generalize hE : (0 + (n.natAbs.log2 : Int) + 1022).toNat = E
    generalize n.natAbs * 2 ^ (52 - n.natAbs.log2) = M at *
    have hE2 : E ≤ 1075 := by omega
    unfold Ieee.Format.word
    rw [double_sign]
    rcases Int.lt_or_gt_of_ne (show n ≠ 0 by omega) with c | c
    · rw [decide_eq_true c, decide_eq_false (show ¬ -n < 0 by omega)]
      simp only [if_true, Bool.false_eq_true, if_false]
      rw [if_neg (by omega)]; omega
    · rw [decide_eq_false (show ¬ n < 0 by omega), decide_eq_true (show -n < 0 by omega)]
      simp only [if_true, Bool.false_eq_true, if_false]
      rw [if_pos (by omega)]; omega
end Go.Proofs.Ytaaonafokkdadaa
