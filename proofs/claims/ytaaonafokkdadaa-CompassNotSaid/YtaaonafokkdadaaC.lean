/-
  Words that are whole numbers: sums, differences, products, order, as an integer.
  Conditions: none beyond those that each lemma states.
-/
import Derived.Test.YtaaonafokkdadaaB
namespace Go.Proofs.Ytaaonafokkdadaa
open Go

/-- The word b is the whole number n (a zero may have a sign). -/
structure Fl (b : Nat) (n : Int) : Prop where
  reads : Is (Ieee.double.read b) n
  word : n ≠ 0 → b = fl n
  lt : b < 18446744073709551616
theorem write_bound (d : Ieee.Datum) : Ieee.double.write d < 18446744073709551616 := FloatKind.f64.format.write_lt d
theorem fl_Fl (n : Int) (h : n.natAbs < 9007199254740992) : Fl (fl n) n := ⟨is_fl n h, fun _ => rfl, by rw [fl_eq]; exact write_bound _⟩

theorem pow_pos' (k : Nat) : (0 : Int) < 2 ^ k := Int.pow_pos (by omega)
theorem compare_mul (x y c : Int) (hc : 0 < c) : compare (x * c) (y * c) = compare x y := by
  have h1 : x * c < y * c ↔ x < y := ⟨fun h => Int.lt_of_mul_lt_mul_right h (Int.le_of_lt hc), fun h => Int.mul_lt_mul_of_pos_right h hc⟩
  have h2 : x * c = y * c ↔ x = y := ⟨fun h => Int.eq_of_mul_eq_mul_right (by omega) h, fun h => by rw [h]⟩
  show compareOfLessAndEq (x * c) (y * c) = compareOfLessAndEq x y
  unfold compareOfLessAndEq
  simp only [h1, h2]
theorem Is.order {d e : Ieee.Datum} {x y : Int} (hd : Is d x) (he : Is e y) : d.order e = some (compare x y) := by
  obtain ⟨s, m, i, rfl, hi, -, h1⟩ := hd
  obtain ⟨t, n, j, rfl, hj, -, h2⟩ := he
  show some (compare (Ieee.signed s m (i - min i j).toNat) (Ieee.signed t n (j - min i j).toNat)) = _
  rw [h1 _ (Int.min_le_left ..), h2 _ (Int.min_le_right ..), compare_mul _ _ _ (pow_pos' _)]
theorem Fl.order {a b : Nat} {x y : Int} (ha : Fl a x) (hb : Fl b y) : Ieee.double.order a b = some (compare x y) := ha.reads.order hb.reads

/-- A datum that is n, written. -/
theorem written (s : Bool) (m k : Nat) (n : Int) (h : (if s then -(m : Int) else (m : Int)) = n * 2 ^ k) (hn : n.natAbs < 9007199254740992) : Fl (Ieee.double.write (.number s m (-(k : Int)))) n := by
  by_cases h0 : n = 0
  · subst h0
    have hm : m = 0 := by
      rw [Int.zero_mul] at h
      cases s <;> simp at h <;> omega
    subst hm
    refine ⟨⟨s, 0, -1074, read_zero s _, by omega, by omega, fun b hb => ?_⟩, fun h => absurd rfl h, write_bound _⟩
    rw [signed_eq]; cases s <;> simp
  · have hp := pow_pos' k
    have hm : m = n.natAbs * 2 ^ k := by
      have := congrArg Int.natAbs h
      rw [Int.natAbs_mul, Int.natAbs_pow] at this
      cases s <;> simpa using this
    have hs : s = decide (n < 0) := by
      cases s
      · have : 0 ≤ n * 2 ^ k := by rw [← h]; simp
        have hn0 : ¬ n < 0 := fun hlt => by
          have := Int.mul_neg_of_neg_of_pos hlt hp
          omega
        simp [hn0]
      · have hlt : n * 2 ^ k ≤ 0 := by rw [← h]; simp
        have hn0 : n < 0 := by
          rcases Int.lt_or_gt_of_ne h0 with h2 | h2
          · exact h2
          · have := Int.mul_pos h2 hp
            omega
        simp [hn0]
    have hlog : n.natAbs.log2 < 53 := (Nat.log2_lt (by omega)).2 (by omega)
    have e : Ieee.double.write (.number s m (-(k : Int))) = fl n := by
      have := write_far (decide (n < 0)) n.natAbs k 0 (by omega) hn (by omega) (by omega)
      rw [Int.zero_sub] at this
      rw [hm, hs, this]
      rfl
    rw [e]
    exact fl_Fl n hn
theorem Is.sum {d e : Ieee.Datum} {x y : Int} (hd : Is d x) (he : Is e y) (hxy : (x + y).natAbs < 9007199254740992) : ∃ r, (d.sum e).map Ieee.double.write = some r ∧ Fl r (x + y) := by
  obtain ⟨s, m, i, rfl, hi, hi2, h1⟩ := hd
  obtain ⟨t, n, j, rfl, hj, hj2, h2⟩ := he
  have g1 := h1 _ (Int.min_le_left i j)
  have g2 := h2 _ (Int.min_le_right i j)
  obtain ⟨k, hk⟩ : ∃ k : Nat, min i j = -(k : Int) := ⟨(-(min i j)).toNat, by omega⟩
  refine ⟨_, rfl, ?_⟩
  show Fl (Ieee.double.write (.number (if Ieee.signed s m (i - min i j).toNat + Ieee.signed t n (j - min i j).toNat = 0 then s && t else decide (Ieee.signed s m (i - min i j).toNat + Ieee.signed t n (j - min i j).toNat < 0)) (Ieee.signed s m (i - min i j).toNat + Ieee.signed t n (j - min i j).toNat).natAbs (min i j))) (x + y)
  rw [g1, g2, hk, show (-(-(k : Int))).toNat = k by omega, ← Int.add_mul]
  refine written _ _ k (x + y) ?_ hxy
  generalize (x + y) * 2 ^ k = T
  by_cases h0 : T = 0
  · subst h0; simp
  · rw [if_neg h0]
    by_cases hT : T < 0
    · rw [decide_eq_true hT, if_pos rfl]; omega
    · rw [decide_eq_false hT, if_neg (by simp)]; omega
theorem Is.opposite {d : Ieee.Datum} {x : Int} (hd : Is d x) : Is d.opposite (-x) := by
  obtain ⟨s, m, i, rfl, hi, hi2, h1⟩ := hd
  refine ⟨!s, m, i, rfl, hi, hi2, fun b hb => ?_⟩
  have := h1 b hb
  rw [signed_eq] at this ⊢
  rw [Int.neg_mul, ← this]
  cases s <;> simp [Int.neg_mul]
theorem Fl.add {a b : Nat} {x y : Int} (ha : Fl a x) (hb : Fl b y) (hxy : (x + y).natAbs < 9007199254740992) : ∃ r, floatBits .add .f64 a b = some r ∧ Fl r (x + y) := ha.reads.sum hb.reads hxy
theorem Fl.sub {a b : Nat} {x y : Int} (ha : Fl a x) (hb : Fl b y) (hxy : (x - y).natAbs < 9007199254740992) : ∃ r, floatBits .sub .f64 a b = some r ∧ Fl r (x - y) := by
  rw [Int.sub_eq_add_neg] at hxy ⊢
  exact ha.reads.sum hb.reads.opposite hxy
theorem Fl.mul {a b : Nat} {x y : Int} (ha : Fl a x) (hb : Fl b y) (hxy : (x * y).natAbs < 9007199254740992) : ∃ r, floatBits .mul .f64 a b = some r ∧ Fl r (x * y) := by
  obtain ⟨s, m, i, e1, hi, hi2, h1⟩ := ha.reads
  obtain ⟨t, n, j, e2, hj, hj2, h2⟩ := hb.reads
  have g1 := h1 i (by omega)
  have g2 := h2 j (by omega)
  rw [signed_eq, Int.sub_self] at g1 g2
  simp only [Int.toNat_zero, Int.pow_zero, Int.mul_one] at g1 g2
  obtain ⟨k, hk⟩ : ∃ k : Nat, i = -(k : Int) := ⟨(-i).toNat, by omega⟩
  obtain ⟨l, hl⟩ : ∃ l : Nat, j = -(l : Int) := ⟨(-j).toNat, by omega⟩
  subst hk; subst hl
  rw [show (-(-(k : Int))).toNat = k by omega] at g1
  rw [show (-(-(l : Int))).toNat = l by omega] at g2
  refine ⟨Ieee.double.write (.number (s ^^ t) (m * n) (-((k + l : Nat) : Int))), ?_, ?_⟩
  · show ((Ieee.double.read a).product (Ieee.double.read b)).map Ieee.double.write = _
    rw [e1, e2]
    show some (Ieee.double.write (.number (s ^^ t) (m * n) (-(k : Int) + -(l : Int)))) = _
    rw [show -(k : Int) + -(l : Int) = -((k + l : Nat) : Int) by omega]
  · refine written _ _ (k + l) (x * y) ?_ hxy
    rw [Int.pow_add, show x * y * (2 ^ k * 2 ^ l) = (x * 2 ^ k) * (y * 2 ^ l) by ac_rfl, ← g1, ← g2]
    cases s <;> cases t <;> simp [Int.neg_mul, Int.mul_neg]
end Go.Proofs.Ytaaonafokkdadaa
