/-
  Whole numbers made integers, cut, without their sign; and a point turned.
-/
import Derived.Test.YtaaonafokkdadaaC
import Derived.Test.YtaaonafokkdadaaChecked
import Derived.WalkKit
import Derived.WalkLawsBesides
import Derived.Lib.Hide
namespace Go.Proofs.Ytaaonafokkdadaa
open Go Go.RowKit

/-- How a word that is a whole number reads: nought, or a number with 53 digits. -/
theorem Fl.read {b : Nat} {n : Int} (h : Fl b n) (hn : n.natAbs < 9007199254740992) :
    (n = 0 ∧ ∃ s i, Ieee.double.read b = .number s 0 i ∧ i ≤ 0) ∨ (n ≠ 0 ∧ b = fl n ∧ Ieee.double.read b = .number (decide (n < 0)) (n.natAbs * 2 ^ (52 - n.natAbs.log2)) (-((52 - n.natAbs.log2 : Nat) : Int))) := by
  by_cases h0 : n = 0
  · subst h0
    obtain ⟨s, m, i, e, hi, -, hv⟩ := h.reads
    have := hv i (by omega)
    rw [signed_eq, Int.sub_self, Int.zero_mul] at this
    have hm : m = 0 := by cases s <;> simp at this <;> omega
    subst hm
    exact .inl ⟨rfl, s, i, e, hi⟩
  · have hb := h.word h0
    have hlog : n.natAbs.log2 < 53 := (Nat.log2_lt (by omega)).2 (by omega)
    refine .inr ⟨h0, hb, ?_⟩
    rw [hb, read_fl n h0 hn, show (n.natAbs.log2 : Int) - 52 = -((52 - n.natAbs.log2 : Nat) : Int) by omega]
theorem integral_zero (s : Bool) (i : Int) (_hi : i ≤ 0) : (Ieee.Datum.number s 0 i).integral .zero = .number s 0 0 := by
  show Ieee.Datum.number s (Ieee.Toward.zero.cut s (0 <<< i.toNat) (-i).toNat) 0 = _
  rw [Nat.zero_shiftLeft]
  unfold Ieee.Toward.cut
  simp
theorem integral_num (s : Bool) (m d : Nat) (hm : 0 < m) : (Ieee.Datum.number s (m * 2 ^ d) (-(d : Int))).integral .zero = .number s m 0 := by
  show Ieee.Datum.number s (Ieee.Toward.zero.cut s ((m * 2 ^ d) <<< (-(d : Int)).toNat) (-(-(d : Int))).toNat) 0 = _
  rw [show (-(d : Int)).toNat = 0 by omega, show (-(-(d : Int))).toNat = d by omega, Nat.shiftLeft_zero, cut_zero_mul s m d hm]
/-- As an integer. -/
theorem Fl.toInt {b : Nat} {n : Int} (h : Fl b n) (hn : n.natAbs < 9007199254740992) : floatToIntVal .f64 b .i64 = some n := by
  have key : ((FloatKind.f64.decode b).toInt .zero) = some n := by
    show ((Ieee.double.read b).toInt .zero) = some n
    rcases h.read hn with ⟨rfl, s, i, e, hi⟩ | ⟨h0, -, e⟩
    · rw [e]
      unfold Ieee.Datum.toInt
      rw [integral_zero s i hi]
      cases s <;> rfl
    · rw [e]
      unfold Ieee.Datum.toInt
      rw [integral_num _ _ _ (by omega)]
      show some (Ieee.signed (decide (n < 0)) n.natAbs 0) = some n
      rw [signed_eq]
      by_cases hlt : n < 0
      · rw [if_pos (by simpa using hlt)]; simp; omega
      · rw [if_neg (by simpa using hlt)]; simp; omega
  unfold floatToIntVal
  rw [key]
  show (if IntKind.i64.min ≤ n ∧ n ≤ IntKind.i64.max then some n else none) = some n
  rw [if_pos]
  simp [IntKind.min, IntKind.max, IntKind.signed, IntKind.bits]
  omega
/-- Cut towards nought it is as it was, but for a nought's word. -/
theorem Fl.trunc {b : Nat} {n : Int} (h : Fl b n) (hn : n.natAbs < 9007199254740992) : Fl (Ieee.double.write ((Ieee.double.read b).integral .zero)) n := by
  rcases h.read hn with ⟨rfl, s, i, e, hi⟩ | ⟨h0, -, e⟩
  · rw [e, integral_zero s i hi]
    exact written s 0 0 0 (by cases s <;> rfl) (by decide)
  · rw [e, integral_num _ _ _ (by omega)]
    refine written _ _ 0 n ?_ hn
    by_cases hlt : n < 0
    · rw [if_pos (by simpa using hlt)]; simp; omega
    · rw [if_neg (by simpa using hlt)]; simp; omega

theorem bits_one : fl 1 = 4607182418800017408 := by decide +kernel
theorem bits_zero : fl 0 = 0 := by decide +kernel
theorem bits_quarter : fl 16384 = 4670232813583204352 := by decide +kernel

/-- A point times i. -/
theorem mul_i {a b : Nat} {x y : Int} (ha : Fl a x) (hb : Fl b y) (hx : x.natAbs ≤ 1000000) (hy : y.natAbs ≤ 1000000) : ∃ r i, cMulBits a b 0 4607182418800017408 = some (r, i) ∧ Fl r (-y) ∧ Fl i x := by
  have z : Fl 0 0 := by have := fl_Fl 0 (by decide); rwa [bits_zero] at this
  have o : Fl 4607182418800017408 1 := by have := fl_Fl 1 (by decide); rwa [bits_one] at this
  obtain ⟨ac, h1, f1⟩ := ha.mul z (by simp)
  obtain ⟨bd, h2, f2⟩ := hb.mul o (by rw [Int.mul_one]; omega)
  rw [Int.mul_zero] at f1
  rw [Int.mul_one] at f2
  obtain ⟨re, h3, f3⟩ := f1.sub f2 (by omega)
  obtain ⟨ad, h4, f4⟩ := ha.mul o (by rw [Int.mul_one]; omega)
  obtain ⟨bc, h5, f5⟩ := hb.mul z (by simp)
  rw [Int.mul_one] at f4
  rw [Int.mul_zero] at f5
  obtain ⟨im, h6, f6⟩ := f4.add f5 (by omega)
  refine ⟨re, im, ?_, by rw [Int.zero_sub] at f3; exact f3, by rw [Int.add_zero] at f6; exact f6⟩
  unfold cMulBits
  simp only [h1, h2, h3, h4, h5, h6, Option.bind_some]

set_option maxHeartbeats 1000000 in
theorem turn_any (a b : Nat) (x y : Int) (ha : Fl a x) (hb : Fl b y) (hx : x.natAbs ≤ 1000000) (hy : y.natAbs ≤ 1000000) (w : World) :
    Calls Try.prog 29 #[.complex .f64 a b] w fun e w' => e = .returned (.complex .f64 (fl (-y)) (fl x)) ∧ w = w' := by
  obtain ⟨r, i, hm, fr, fi⟩ := mul_i ha hb hx hy
  have hmul := run_complex_mul (P := Try.prog) w 23 a b 0 4607182418800017408 r i hm
  have c1 := run_convert_float_int (P := Try.prog) w 22 3 .f64 .i64 r (-y) (by kernel_rfl) Try.underlying3 (fr.toInt (by omega))
  have c2 := run_convert_float_int (P := Try.prog) w 22 3 .f64 .i64 i x (by kernel_rfl) Try.underlying3 (fi.toInt (by omega))
  clear hm fr fi ha hb
  go_enter Try.func29, Try.ntmps29
  go_wp2
  go_ret
  exact ⟨rfl, rfl⟩
end Go.Proofs.Ytaaonafokkdadaa
