/-
  Numbers as float64: what a word of a number is, and what it reads as; symbolically.
  Conditions: none beyond those that each lemma states.
-/
import Derived.Laws.FloatArith
import Derived.Laws.ComplexArith
namespace Go.Proofs.Ytaaonafokkdadaa
open Go

theorem double_least : Ieee.double.leastPlace = -1074 := by decide
theorem double_binade : Ieee.double.binade = 4503599627370496 := by decide
theorem double_inf : Ieee.double.infRung = 9218868437227405312 := by decide
theorem double_sign : Ieee.double.signWeight = 9223372036854775808 := by decide

/-- Nothing is cut where nothing is dropped. -/
theorem cut_zero (s : Bool) (n : Nat) : Ieee.Toward.even.cut s n 0 = n := by
  unfold Ieee.Toward.cut
  simp [Nat.mod_one]

/-- THE WORD OF A NUMBER that has at most 53 digits and is of a middling size. -/
theorem write_num (s : Bool) (m : Nat) (place : Int) (hm : 0 < m) (hm2 : m < 9007199254740992) (hlow : -1074 ≤ place + (m.log2 : Int) - 52) (hhigh : place + (m.log2 : Int) ≤ 1000) :
    Ieee.double.write (.number s m place) = Ieee.double.word s ((place + (m.log2 : Int) + 1022).toNat * 4503599627370496 + m * 2 ^ (52 - m.log2)) := by
  have hlog : m.log2 < 53 := (Nat.log2_lt (by omega)).2 (by omega)
  have h0 : m ≠ 0 := by omega
  show Ieee.double.nearest s m place = _
  unfold Ieee.Format.nearest
  rw [if_neg h0, double_least, double_binade, double_inf]
  have e1 : max (place + (m.log2 : Int) - (Ieee.double.fractionBits : Int)) (-1074) = place + (m.log2 : Int) - 52 := by
    show max (place + (m.log2 : Int) - 52) (-1074) = _
    omega
  simp only [e1]
  have e2 : (place - (place + (m.log2 : Int) - 52)).toNat = 52 - m.log2 := by omega
  have e3 : (place + (m.log2 : Int) - 52 - place).toNat = 0 := by omega
  have e4 : (place + (m.log2 : Int) - 52 - -1074).toNat = (place + (m.log2 : Int) + 1022).toNat := by omega
  rw [e2, e3, e4, cut_zero, Nat.shiftLeft_eq]
  congr 1
  refine Nat.min_eq_left ?_
  have hM : m * 2 ^ (52 - m.log2) < 9007199254740992 := by
    have h1 : m < 2 ^ (m.log2 + 1) := Nat.lt_log2_self
    have h2 : m * 2 ^ (52 - m.log2) < 2 ^ (m.log2 + 1) * 2 ^ (52 - m.log2) := Nat.mul_lt_mul_of_pos_right h1 (Nat.pow_pos (by omega))
    rw [← Nat.pow_add, show m.log2 + 1 + (52 - m.log2) = 53 by omega] at h2
    exact h2
  omega
theorem frac_bounds (m : Nat) (hm : 0 < m) (hm2 : m < 9007199254740992) : 4503599627370496 ≤ m * 2 ^ (52 - m.log2) ∧ m * 2 ^ (52 - m.log2) < 9007199254740992 := by
  have hlog : m.log2 < 53 := (Nat.log2_lt (by omega)).2 (by omega)
  have h1 : m < 2 ^ (m.log2 + 1) := Nat.lt_log2_self
  have h0 : 2 ^ m.log2 ≤ m := Nat.log2_self_le (by omega)
  have h2 : m * 2 ^ (52 - m.log2) < 2 ^ (m.log2 + 1) * 2 ^ (52 - m.log2) := Nat.mul_lt_mul_of_pos_right h1 (Nat.pow_pos (by omega))
  have h3 : 2 ^ m.log2 * 2 ^ (52 - m.log2) ≤ m * 2 ^ (52 - m.log2) := Nat.mul_le_mul_right _ h0
  rw [← Nat.pow_add, show m.log2 + 1 + (52 - m.log2) = 53 by omega] at h2
  rw [← Nat.pow_add, show m.log2 + (52 - m.log2) = 52 by omega] at h3
  exact ⟨h3, h2⟩
/-- WHAT A WORD READS AS. -/
theorem read_word (s : Bool) (E M : Nat) (hE : E ≤ 2030) (h1 : 4503599627370496 ≤ M) (h2 : M < 9007199254740992) : Ieee.double.read (Ieee.double.word s (E * 4503599627370496 + M)) = .number s M ((E : Int) - 1074) := by
  unfold Ieee.Format.read
  have hr : E * 4503599627370496 + M < 9218868437227405312 := by omega
  have hw : Ieee.double.word s (E * 4503599627370496 + M) % Ieee.double.signWeight = E * 4503599627370496 + M := by
    unfold Ieee.Format.word
    rw [double_sign]
    cases s <;> simp <;> omega
  have hs : (Ieee.double.word s (E * 4503599627370496 + M) / Ieee.double.signWeight % 2 == 1) = s := by
    unfold Ieee.Format.word
    rw [double_sign]
    cases s
    · have : (E * 4503599627370496 + M) / 9223372036854775808 = 0 := by omega
      simp [this]
    · have : (9223372036854775808 + (E * 4503599627370496 + M)) / 9223372036854775808 = 1 := by omega
      simp [this]
  simp only [hw, hs, double_binade, double_inf, double_least]
  rw [if_neg (by omega), if_pos hr]
  have e1 : (E * 4503599627370496 + M) % 4503599627370496 = M - 4503599627370496 := by omega
  have e2 : (E * 4503599627370496 + M) / 4503599627370496 = E + 1 := by omega
  rw [e1, e2]
  have e3 : 4503599627370496 + (M - 4503599627370496) = M := by omega
  have e4 : (-1074 : Int) + ((E + 1 - 1 : Nat) : Int) = (E : Int) - 1074 := by omega
  rw [e3, e4]
/-- A number that is written and read again. -/
theorem read_write (s : Bool) (m : Nat) (place : Int) (hm : 0 < m) (hm2 : m < 9007199254740992) (hlow : -1074 ≤ place + (m.log2 : Int) - 52) (hhigh : place + (m.log2 : Int) ≤ 1000) :
    Ieee.double.read (Ieee.double.write (.number s m place)) = .number s (m * 2 ^ (52 - m.log2)) (place + (m.log2 : Int) - 52) := by
  obtain ⟨h1, h2⟩ := frac_bounds m hm hm2
  have e : (((place + (m.log2 : Int) + 1022).toNat : Nat) : Int) - 1074 = place + (m.log2 : Int) - 52 := by omega
  rw [write_num s m place hm hm2 hlow hhigh]
  have r := read_word s (place + (m.log2 : Int) + 1022).toNat (m * 2 ^ (52 - m.log2)) (by omega) h1 h2
  rw [e] at r
  exact r
theorem read_zero (s : Bool) (place : Int) : Ieee.double.read (Ieee.double.write (.number s 0 place)) = .number s 0 (-1074) := by
  show Ieee.double.read (Ieee.double.nearest s 0 place) = _
  unfold Ieee.Format.nearest
  rw [if_pos rfl]
  cases s <;> decide
/-- The same number with its digits moved has the same word. -/
theorem write_moved (s : Bool) (m k : Nat) (place : Int) (hm : 0 < m) (hm2 : m * 2 ^ k < 9007199254740992) (hlow : -1074 ≤ place + (m.log2 : Int) - 52) (hhigh : place + (m.log2 : Int) ≤ 1000) :
    Ieee.double.write (.number s (m * 2 ^ k) (place - (k : Int))) = Ieee.double.write (.number s m place) := by
  have hp : 0 < 2 ^ k := Nat.pow_pos (by omega)
  have hle : m ≤ m * 2 ^ k := Nat.le_mul_of_pos_right _ hp
  have hlog : (m * 2 ^ k).log2 = m.log2 + k := by
    have h1 : m < 2 ^ (m.log2 + 1) := Nat.lt_log2_self
    have h0 : 2 ^ m.log2 ≤ m := Nat.log2_self_le (by omega)
    have a1 : m * 2 ^ k < 2 ^ (m.log2 + k + 1) := by
      have := Nat.mul_lt_mul_of_pos_right h1 hp
      rwa [← Nat.pow_add, show m.log2 + 1 + k = m.log2 + k + 1 by omega] at this
    have a2 : 2 ^ (m.log2 + k) ≤ m * 2 ^ k := by
      have := Nat.mul_le_mul_right (2 ^ k) h0
      rwa [← Nat.pow_add] at this
    have b1 := (Nat.log2_lt (n := m * 2 ^ k) (k := m.log2 + k + 1) (by omega)).2 a1
    have b2 := (Nat.le_log2 (n := m * 2 ^ k) (k := m.log2 + k) (by omega)).2 a2
    omega
  have hk : m.log2 + k < 53 := by
    rw [← hlog]; exact (Nat.log2_lt (by omega)).2 (by omega)
  rw [write_num s _ _ (by omega) hm2 (by rw [hlog]; omega) (by rw [hlog]; omega), write_num s m place hm (by omega) hlow hhigh, hlog]
  have e1 : (place - (k : Int) + ((m.log2 + k : Nat) : Int) + 1022).toNat = (place + (m.log2 : Int) + 1022).toNat := by omega
  rw [e1, Nat.mul_assoc, ← Nat.pow_add, show k + (52 - (m.log2 + k)) = 52 - m.log2 by omega]

/-- The bits of a whole number. -/
def fl (n : Int) : Nat := floatOfInt .f64 n
theorem fl_eq (n : Int) : fl n = Ieee.double.write (.number (decide (n < 0)) n.natAbs 0) := rfl
theorem read_fl (n : Int) (h0 : n ≠ 0) (h : n.natAbs < 9007199254740992) : Ieee.double.read (fl n) = .number (decide (n < 0)) (n.natAbs * 2 ^ (52 - n.natAbs.log2)) ((n.natAbs.log2 : Int) - 52) := by
  have hlog : n.natAbs.log2 < 53 := (Nat.log2_lt (by omega)).2 (by omega)
  have r := read_write (decide (n < 0)) n.natAbs 0 (by omega) h (by omega) (by omega)
  rw [Int.zero_add] at r
  exact r
theorem read_fl0 : Ieee.double.read (fl 0) = .number false 0 (-1074) := by
  rw [fl_eq]; exact read_zero false 0
end Go.Proofs.Ytaaonafokkdadaa
