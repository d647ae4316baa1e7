/-
  Whole numbers as float64: made whole, told apart, put together.
  Conditions: none beyond those that each lemma states.
-/
import Derived.Test.YtaaonafokkdadaaA
namespace Go.Proofs.Ytaaonafokkdadaa
open Go

theorem log2_mul (m k : Nat) (hm : 0 < m) : (m * 2 ^ k).log2 = m.log2 + k := by
  have hp : 0 < 2 ^ k := Nat.pow_pos (by omega)
  have hle : m ≤ m * 2 ^ k := Nat.le_mul_of_pos_right _ hp
  have h1 : m < 2 ^ (m.log2 + 1) := Nat.lt_log2_self
  have h0 : 2 ^ m.log2 ≤ m := Nat.log2_self_le (by omega)
  have a1 : m * 2 ^ k < 2 ^ (m.log2 + k + 1) := by
    have := Nat.mul_lt_mul_of_pos_right h1 hp
    rwa [← Nat.pow_add, show m.log2 + 1 + k = m.log2 + k + 1 by omega] at this
  have a2 : 2 ^ (m.log2 + k) ≤ m * 2 ^ k := by
    have := Nat.mul_le_mul_right (2 ^ k) h0
    rwa [← Nat.pow_add] at this
  have b1 := (Nat.log2_lt (n := m * 2 ^ k) (k := m.log2 + k + 1) (by omega)).2 a1
  have b2 := (Nat.le_log2 (n := m * 2 ^ k) (k := m.log2 + k) (by omega)).2 a2
  omega
/-- Where what is dropped is nought, nothing is rounded. -/
theorem cut_even_mul (s : Bool) (m d : Nat) (hm : 0 < m) : Ieee.Toward.even.cut s (m * 2 ^ d) d = m := by
  unfold Ieee.Toward.cut
  have hd : min d ((m * 2 ^ d).log2 + 2) = d := by rw [log2_mul m d hm]; omega
  have hp : 0 < 2 ^ d := Nat.pow_pos (by omega)
  simp only [hd, Nat.shiftLeft_eq, Nat.one_mul, Nat.mul_div_cancel _ hp, Nat.mul_mod_left]
  have : (2 ^ d == 2 * 0) = false := by rw [beq_eq_false_iff_ne]; omega
  simp
theorem cut_zero_mul (s : Bool) (m d : Nat) (hm : 0 < m) : Ieee.Toward.zero.cut s (m * 2 ^ d) d = m := by
  unfold Ieee.Toward.cut
  have hd : min d ((m * 2 ^ d).log2 + 2) = d := by rw [log2_mul m d hm]; omega
  have hp : 0 < 2 ^ d := Nat.pow_pos (by omega)
  simp only [hd, Nat.shiftLeft_eq, Nat.one_mul, Nat.mul_div_cancel _ hp]
  simp

/-- THE SAME NUMBER WITH ITS DIGITS MOVED has the same word, however far. -/
theorem write_far (s : Bool) (m k : Nat) (place : Int) (hm : 0 < m) (hm2 : m < 9007199254740992) (hlow : -1074 ≤ place + (m.log2 : Int) - 52) (hhigh : place + (m.log2 : Int) ≤ 1000) :
    Ieee.double.write (.number s (m * 2 ^ k) (place - (k : Int))) = Ieee.double.write (.number s m place) := by
  have hlog := log2_mul m k hm
  have hml : m.log2 < 53 := (Nat.log2_lt (by omega)).2 (by omega)
  by_cases hk : m.log2 + k ≤ 52
  · refine write_moved s m k place hm ?_ hlow hhigh
    have h1 : m * 2 ^ k < 2 ^ ((m * 2 ^ k).log2 + 1) := Nat.lt_log2_self
    rw [hlog] at h1
    have h2 : 2 ^ (m.log2 + k + 1) ≤ 2 ^ 53 := Nat.pow_le_pow_right (by omega) (by omega)
    have h3 : (2 : Nat) ^ 53 = 9007199254740992 := by decide
    omega
  · have hp : 0 < 2 ^ k := Nat.pow_pos (by omega)
    have h0 : m * 2 ^ k ≠ 0 := by
      have := Nat.mul_pos hm hp
      omega
    rw [write_num s m place hm hm2 hlow hhigh]
    show Ieee.double.nearest s (m * 2 ^ k) (place - (k : Int)) = _
    unfold Ieee.Format.nearest
    rw [if_neg h0, double_least, double_binade, double_inf, hlog]
    have e1 : max (place - (k : Int) + ((m.log2 + k : Nat) : Int) - (Ieee.double.fractionBits : Int)) (-1074) = place + (m.log2 : Int) - 52 := by
      show max (place - (k : Int) + ((m.log2 + k : Nat) : Int) - 52) (-1074) = _
      omega
    simp only [e1]
    have e2 : (place - (k : Int) - (place + (m.log2 : Int) - 52)).toNat = 0 := by omega
    have e3 : (place + (m.log2 : Int) - 52 - (place - (k : Int))).toNat = m.log2 + k - 52 := by omega
    have e4 : (place + (m.log2 : Int) - 52 - -1074).toNat = (place + (m.log2 : Int) + 1022).toNat := by omega
    have e5 : (m * 2 ^ k) <<< 0 = (m * 2 ^ (52 - m.log2)) * 2 ^ (m.log2 + k - 52) := by
      rw [Nat.shiftLeft_zero, Nat.mul_assoc, ← Nat.pow_add, show 52 - m.log2 + (m.log2 + k - 52) = k by omega]
    rw [e2, e3, e4, e5, cut_even_mul s _ _ (Nat.mul_pos hm (Nat.pow_pos (by omega)))]
    have hb := (frac_bounds m hm hm2).2
    rw [Nat.min_eq_left (by omega)]

/-- A datum that is the whole number n. -/
structure Is (d : Ieee.Datum) (n : Int) : Prop where
  is : ∃ s m i, d = .number s m i ∧ i ≤ 0 ∧ -2000 ≤ i ∧ ∀ b : Int, b ≤ i → Ieee.signed s m (i - b).toNat = n * 2 ^ (-b).toNat
theorem signed_eq (s : Bool) (m k : Nat) : Ieee.signed s m k = (if s then -(m : Int) else (m : Int)) * 2 ^ k := by
  unfold Ieee.signed
  rw [Nat.shiftLeft_eq]
  cases s <;> simp [Int.neg_mul]
theorem is_fl (n : Int) (h : n.natAbs < 9007199254740992) : Is (Ieee.double.read (fl n)) n := by
  by_cases h0 : n = 0
  · subst h0
    refine ⟨false, 0, -1074, read_fl0, by omega, by omega, fun b hb => ?_⟩
    rw [signed_eq]; simp
  · have hlog : n.natAbs.log2 < 53 := (Nat.log2_lt (by omega)).2 (by omega)
    refine ⟨_, _, _, read_fl n h0 h, by omega, by omega, fun b hb => ?_⟩
    rw [signed_eq]
    have e : (-b).toNat = (52 - n.natAbs.log2) + ((n.natAbs.log2 : Int) - 52 - b).toNat := by omega
    rw [e, Int.pow_add, ← Int.mul_assoc]
    congr 1
    by_cases hn : n < 0
    · rw [if_pos (by simpa using hn)]
      have : n = -((n.natAbs : Nat) : Int) := by omega
      conv => rhs; rw [this]
      rw [Int.neg_mul]; simp
    · rw [if_neg (by simpa using hn)]
      have : n = ((n.natAbs : Nat) : Int) := by omega
      conv => rhs; rw [this]
      simp
end Go.Proofs.Ytaaonafokkdadaa
