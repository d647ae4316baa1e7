/-
  Any word of a float64: what it reads as, when it is a whole number.
  Conditions: none beyond those that each lemma states.
-/
import Derived.Test.YtaaonafokkdadaaK
namespace Go.Proofs.Ytaaonafokkdadaa
open Go Go.RowKit

/-- How any word reads. -/
theorem read_cases (b : Nat) (hb : b < 18446744073709551616) :
    (∃ s m i, Ieee.double.read b = .number s m i ∧ ((i = -1074 ∧ m < 4503599627370496) ∨ (∃ E : Nat, E ≤ 2045 ∧ i = (E : Int) - 1074 ∧ 4503599627370496 ≤ m ∧ m < 9007199254740992 ∧ b = Ieee.double.word s (E * 4503599627370496 + m))))
    ∨ (∃ s, Ieee.double.read b = .infinity s) ∨ (∃ s t, Ieee.double.read b = .nan s t) := by
  unfold Ieee.Format.read
  simp only [double_sign, double_binade, double_inf, double_least]
  generalize hs : (b / 9223372036854775808 % 2 == 1) = s
  by_cases c1 : b % 9223372036854775808 < 4503599627370496
  · rw [if_pos c1]
    exact .inl ⟨s, _, _, rfl, .inl ⟨rfl, c1⟩⟩
  · rw [if_neg c1]
    by_cases c2 : b % 9223372036854775808 < 9218868437227405312
    · rw [if_pos c2]
      refine .inl ⟨s, _, _, rfl, .inr ⟨b % 9223372036854775808 / 4503599627370496 - 1, by omega, by omega, by omega, by omega, ?_⟩⟩
      unfold Ieee.Format.word
      rw [double_sign]
      cases s
      · have : b / 9223372036854775808 % 2 ≠ 1 := by simpa using hs
        simp only [Bool.false_eq_true, if_false]
        omega
      · have : b / 9223372036854775808 % 2 = 1 := by simpa using hs
        simp only [if_true]
        omega
    · rw [if_neg c2]
      split
      · exact .inr (.inl ⟨_, rfl⟩)
      · exact .inr (.inr ⟨_, _, rfl⟩)

theorem cut_zero_div (s : Bool) (n d : Nat) : Ieee.Toward.zero.cut s n d = n / 2 ^ d := by
  unfold Ieee.Toward.cut
  simp only [Nat.shiftLeft_eq, Nat.one_mul, Bool.toNat_false, Nat.add_zero]
  by_cases h : d ≤ n.log2 + 2
  · rw [Nat.min_eq_left h]
  · rw [Nat.min_eq_right (by omega)]
    have h1 : n < 2 ^ (n.log2 + 1) := Nat.lt_log2_self
    have h2 : 2 ^ (n.log2 + 1) ≤ 2 ^ (n.log2 + 2) := Nat.pow_le_pow_right (by omega) (by omega)
    have h3 : 2 ^ (n.log2 + 1) ≤ 2 ^ d := Nat.pow_le_pow_right (by omega) (by omega)
    rw [Nat.div_eq_of_lt (by omega), Nat.div_eq_of_lt (by omega)]

/-- A word of a number whose size is at most K. -/
structure Small (b K : Nat) : Prop where
  lt : b < 18446744073709551616
  is : ∃ s m k, Ieee.double.read b = .number s m (-((k : Nat) : Int)) ∧ k ≤ 1074 ∧ m ≤ K * 2 ^ k ∧
    (m < 4503599627370496 ∧ k = 1074 ∨ (∃ E : Nat, (E : Int) = 1074 - (k : Int) ∧ 4503599627370496 ≤ m ∧ m < 9007199254740992 ∧ b = Ieee.double.word s (E * 4503599627370496 + m)))
def sg (s : Bool) (M : Nat) : Int := if s then -(M : Int) else (M : Int)
theorem sg_abs (s : Bool) (M : Nat) : (sg s M).natAbs = M := by cases s <;> simp [sg]
/-- What a small number is, made whole; and when it was whole ahead of that. -/
theorem Small.whole {b K : Nat} (h : Small b K) (hK : K ≤ 1000000) :
    ∃ n : Int, n.natAbs ≤ K ∧ floatToIntVal .f64 b .i64 = some n ∧ Fl (Ieee.double.write ((Ieee.double.read b).integral .zero)) n ∧
      (∀ d, Is d n → (Ieee.double.read b).order d = some .eq → Fl b n) := by
  obtain ⟨s, m, k, hr, hk, hm, hw⟩ := h.is
  have hp : 0 < 2 ^ k := Nat.pow_pos (by omega)
  have hM : m / 2 ^ k ≤ K := Nat.div_le_of_le_mul (by rw [Nat.mul_comm]; exact hm)
  have hi : (Ieee.Datum.number s m (-(k : Int))).integral .zero = .number s (m / 2 ^ k) 0 := by
    show Ieee.Datum.number s (Ieee.Toward.zero.cut s (m <<< (-(k : Int)).toNat) (-(-(k : Int))).toNat) 0 = _
    rw [show (-(k : Int)).toNat = 0 by omega, show (-(-(k : Int))).toNat = k by omega, Nat.shiftLeft_zero, cut_zero_div]
  refine ⟨sg s (m / 2 ^ k), by rw [sg_abs]; exact hM, ?_, ?_, ?_⟩
  · have key : ((FloatKind.f64.decode b).toInt .zero) = some (sg s (m / 2 ^ k)) := by
      show ((Ieee.double.read b).toInt .zero) = _
      rw [hr]
      unfold Ieee.Datum.toInt
      rw [hi]
      show some (Ieee.signed s (m / 2 ^ k) 0) = _
      rw [signed_eq, Int.pow_zero, Int.mul_one]
      rfl
    have hb := sg_abs s (m / 2 ^ k)
    unfold floatToIntVal
    rw [key]
    show (if IntKind.i64.min ≤ sg s (m / 2 ^ k) ∧ sg s (m / 2 ^ k) ≤ IntKind.i64.max then some (sg s (m / 2 ^ k)) else none) = _
    rw [if_pos]
    simp [IntKind.min, IntKind.max, IntKind.signed, IntKind.bits]
    omega
  · rw [hr, hi]
    exact written s _ 0 _ (by rw [Int.pow_zero, Int.mul_one]; rfl) (by rw [sg_abs]; omega)
  · intro d hd ho
    rw [hr] at ho
    obtain ⟨t, m', j, rfl, hj, hj2, hv⟩ := hd
    have ho2 : some (compare (Ieee.signed s m (-(k : Int) - min (-(k : Int)) j).toNat) (Ieee.signed t m' (j - min (-(k : Int)) j).toNat)) = some Ordering.eq := ho
    rw [hv _ (Int.min_le_right ..)] at ho2
    have he : Ieee.signed s m (-(k : Int) - min (-(k : Int)) j).toNat = sg s (m / 2 ^ k) * 2 ^ (-(min (-(k : Int)) j)).toNat := by
      have : compareOfLessAndEq (Ieee.signed s m (-(k : Int) - min (-(k : Int)) j).toNat) (sg s (m / 2 ^ k) * 2 ^ (-(min (-(k : Int)) j)).toNat) = .eq := Option.some.inj ho2
      unfold compareOfLessAndEq at this
      split at this
      · cases this
      · split at this
        · assumption
        · cases this
    obtain ⟨e, hee⟩ : ∃ e : Nat, -(min (-(k : Int)) j) = (k : Int) + e := ⟨(-(min (-(k : Int)) j) - k).toNat, by omega⟩
    rw [show (-(k : Int) - min (-(k : Int)) j).toNat = e by omega, show (-(min (-(k : Int)) j)).toNat = k + e by omega, signed_eq, Int.pow_add, ← Int.mul_assoc] at he
    have he2 : (if s then -(m : Int) else (m : Int)) = sg s (m / 2 ^ k) * 2 ^ k := Int.eq_of_mul_eq_mul_right (by have := pow_pos' e; omega) he
    have hmM : m = m / 2 ^ k * 2 ^ k := by
      have := congrArg Int.natAbs he2
      rw [Int.natAbs_mul, sg_abs, Int.natAbs_pow] at this
      cases s <;> simpa using this
    generalize hMM : m / 2 ^ k = M at *
    subst hmM
    refine ⟨⟨s, M * 2 ^ k, -(k : Int), hr, by omega, by omega, fun c hc => ?_⟩, fun h0 => ?_, ?_⟩
    · rw [signed_eq, he2, show (-c).toNat = k + (-(k : Int) - c).toNat by omega, Int.pow_add, Int.mul_assoc]
    · have hM0 : M ≠ 0 := fun h => h0 (by rw [h]; cases s <;> rfl)
      rcases hw with ⟨hlt, hke⟩ | ⟨E, hE, hlo, hhi, hb⟩
      · exfalso
        have : 2 ^ k ≤ M * 2 ^ k := Nat.le_mul_of_pos_left _ (by omega)
        have h2 : (2 : Nat) ^ 52 ≤ 2 ^ k := Nat.pow_le_pow_right (by omega) (by omega)
        have h3 : (2 : Nat) ^ 52 = 4503599627370496 := by decide
        omega
      · have hlog := log2_mul M k (by omega)
        have l1 := (Nat.log2_lt (n := M * 2 ^ k) (k := 53) (by omega)).2 hhi
        have l2 := (Nat.le_log2 (n := M * 2 ^ k) (k := 52) (by omega)).2 hlo
        have w1 := write_num s M 0 (by omega) (by omega) (by omega) (by omega)
        have hs : decide (sg s M < 0) = s := by cases s <;> simp [sg] <;> omega
        rw [fl_eq, sg_abs, hs, w1, show 52 - M.log2 = k by omega, show (0 + (M.log2 : Int) + 1022).toNat = E by omega]
        exact hb
    · exact h.lt

/-- Of how the size stands to K, whether it is small. -/
theorem small_of {b s m i} {K : Nat} (hb : b < 18446744073709551616) (hr : Ieee.double.read b = .number s m i) (hK : K ≤ 1000000)
    (h : ∀ c : Int, c ≤ i → c ≤ 0 → (m : Int) * 2 ^ (i - c).toNat ≤ (K : Int) * 2 ^ (-c).toNat) : Small b K := by
  rcases read_cases b hb with ⟨s', m', i', hr', hw⟩ | ⟨s', hr'⟩ | ⟨s', t', hr'⟩
  · rw [hr] at hr'
    obtain ⟨rfl, rfl, rfl⟩ := Ieee.Datum.number.inj hr'
    have hi : i ≤ 0 := by
      rcases hw with ⟨rfl, -⟩ | ⟨E, hE, rfl, hlo, -, -⟩
      · omega
      · rcases Int.lt_or_le 0 ((E : Int) - 1074) with hp | hp
        · exfalso
          have := h 0 (by omega) (by omega)
          rw [show (-(0 : Int)).toNat = 0 from rfl, Int.pow_zero, Int.mul_one] at this
          have hq : (1 : Int) ≤ 2 ^ ((E : Int) - 1074 - 0).toNat := by have := pow_pos' ((E : Int) - 1074 - 0).toNat; omega
          have := Int.mul_le_mul_of_nonneg_left hq (show (0 : Int) ≤ (m : Int) by omega)
          omega
        · exact hp
    obtain ⟨k, rfl⟩ : ∃ k : Nat, i = -(k : Int) := ⟨(-i).toNat, by omega⟩
    refine ⟨hb, s, m, k, hr, ?_, ?_, ?_⟩
    · rcases hw with ⟨h1, -⟩ | ⟨E, -, h1, -⟩ <;> omega
    · have := h (-(k : Int)) (by omega) (by omega)
      rw [Int.sub_self, show (-(-(k : Int))).toNat = k by omega, show (0 : Int).toNat = 0 from rfl, Int.pow_zero, Int.mul_one] at this
      have e : ((K * 2 ^ k : Nat) : Int) = (K : Int) * 2 ^ k := by simp
      omega
    · rcases hw with ⟨h1, h2⟩ | ⟨E, -, h1, h2, h3, h4⟩
      · exact .inl ⟨h2, by omega⟩
      · exact .inr ⟨E, by omega, h2, h3, h4⟩
  · rw [hr] at hr'; cases hr'
  · rw [hr] at hr'; cases hr'
theorem le_of_cmp {x y : Int} (h : compare x y ≠ .gt) : x ≤ y := by
  rcases Int.lt_or_le y x with c | c
  · exact absurd (cmp_gt c) h
  · exact c
theorem cmp_ne_gt {x y : Int} (h : x ≤ y) : compare x y ≠ .gt := by
  rcases Int.lt_or_eq_of_le h with c | c
  · rw [cmp_lt c]; decide
  · rw [cmp_eq c]; decide
/-- It lies between two whole numbers. -/
theorem small_between {b q r : Nat} {x y : Int} {K : Nat} (hb : b < 18446744073709551616) (hK : K ≤ 1000000) (hq : Is (Ieee.double.read q) x) (hr : Is (Ieee.double.read r) y) (hx : -(K : Int) ≤ x) (hy : y ≤ K) {o p : Ordering}
    (h1 : Ieee.double.order b q = some o) (ho : o ≠ .lt) (h2 : Ieee.double.order b r = some p) (hp : p ≠ .gt) : Small b K := by
  unfold Ieee.Format.order at h1 h2
  obtain ⟨s1, m1, i1, e1, g1, -, v1⟩ := hq
  obtain ⟨s2, m2, i2, e2, g2, -, v2⟩ := hr
  rw [e1] at h1
  rw [e2] at h2
  cases hd : Ieee.double.read b with
  | nan s t => rw [hd] at h1; cases h1
  | infinity s =>
    rw [hd] at h1 h2
    cases s
    · obtain rfl : Ordering.gt = p := Option.some.inj h2
      exact absurd rfl hp
    · obtain rfl : Ordering.lt = o := Option.some.inj h1
      exact absurd rfl ho
  | number s m i =>
    rw [hd] at h1 h2
    refine small_of hb hd hK fun c hc hc0 => ?_
    have a1 : compare (Ieee.signed s m (i - min i i1).toNat) (Ieee.signed s1 m1 (i1 - min i i1).toNat) = o := Option.some.inj h1
    have a2 : compare (Ieee.signed s m (i - min i i2).toNat) (Ieee.signed s2 m2 (i2 - min i i2).toNat) = p := Option.some.inj h2
    rw [v1 _ (Int.min_le_right ..)] at a1
    rw [v2 _ (Int.min_le_right ..)] at a2
    have b2 := le_of_cmp (a2 ▸ hp)
    have b1 : x * 2 ^ (-(min i i1)).toNat ≤ Ieee.signed s m (i - min i i1).toNat := by
      rcases Int.lt_or_le (Ieee.signed s m (i - min i i1).toNat) (x * 2 ^ (-(min i i1)).toNat) with z | z
      · exact absurd (a1.symm.trans (cmp_lt z)) ho
      · exact z
    -- both at the place c
    have up : ∀ (k : Int), k ≤ i → k ≤ 0 → ∀ z : Int, (z * 2 ^ (-k).toNat ≤ Ieee.signed s m (i - k).toNat ↔ z * 2 ^ (-c).toNat ≤ Ieee.signed s m (i - c).toNat) ∧ (Ieee.signed s m (i - k).toNat ≤ z * 2 ^ (-k).toNat ↔ Ieee.signed s m (i - c).toNat ≤ z * 2 ^ (-c).toNat) := by
      intro k hk hk0 z
      rw [signed_eq, signed_eq]
      generalize (if s then -(m : Int) else (m : Int)) = v
      obtain ⟨l, hl⟩ : ∃ l, l = min k c := ⟨_, rfl⟩
      have s1 : ∀ u : Int, l ≤ u → ∀ t : Int, u ≤ t → (2 : Int) ^ (t - l).toNat = 2 ^ (t - u).toNat * 2 ^ (u - l).toNat := fun u hu t ht => by
        rw [← Int.pow_add]; congr 1; omega
      have hkl := pow_pos' (k - l).toNat
      have hcl := pow_pos' (c - l).toNat
      have t1 := s1 k (by omega) i hk
      have t2 := s1 c (by omega) i hc
      have t3 := s1 k (by omega) 0 hk0
      have t4 := s1 c (by omega) 0 hc0
      rw [Int.zero_sub] at t3 t4
      rw [Int.zero_sub] at t3 t4
      have m1 : ∀ a b P : Int, 0 < P → (a ≤ b ↔ a * P ≤ b * P) := fun a b P hP => ⟨fun h => Int.mul_le_mul_of_nonneg_right h (by omega), fun h => Int.le_of_mul_le_mul_right h hP⟩
      constructor
      · rw [m1 _ _ _ hkl, Int.mul_assoc, Int.mul_assoc, ← t1, ← t3, m1 (z * 2 ^ (-c).toNat) _ _ hcl, Int.mul_assoc z, Int.mul_assoc v, ← t2, ← t4]
      · rw [m1 _ _ _ hkl, Int.mul_assoc, Int.mul_assoc, ← t1, ← t3, m1 _ (z * 2 ^ (-c).toNat) _ hcl, Int.mul_assoc z, Int.mul_assoc v, ← t2, ← t4]
    have c1 := ((up _ (Int.min_le_left i i1) (by omega) x).1).1 b1
    have c2 := ((up _ (Int.min_le_left i i2) (by omega) y).2).1 b2
    rw [signed_eq] at c1 c2
    have hpc := pow_pos' (-c).toNat
    have d1 := Int.mul_le_mul_of_nonneg_right hx (Int.le_of_lt hpc)
    have d2 := Int.mul_le_mul_of_nonneg_right hy (Int.le_of_lt hpc)
    rw [Int.neg_mul] at d1
    cases s
    · simp only [Bool.false_eq_true, if_false] at c1 c2
      omega
    · simp only [if_true, Int.neg_mul] at c1 c2
      omega
end Go.Proofs.Ytaaonafokkdadaa
