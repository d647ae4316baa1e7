/-
  math.Abs and math.Trunc of words that are whole numbers; which words are a place's.
-/
import Derived.Test.YtaaonafokkdadaaD
import Derived.Laws.Externs
namespace Go.Proofs.Ytaaonafokkdadaa
open Go Go.RowKit

theorem call32 (b : Nat) (w : World) : (callFunc 32 #[.float .f64 b]).run Try.prog w = .ok (.value (.int .u64 (b : Int))) w := by
  rw [run_callFunc_extern Try.func32 (by kernel_rfl) (by kernel_rfl) (by kernel_rfl) (e := Extern.MathFloatBits.float64bits) (by kernel_rfl)]
  rfl
theorem call31 (b : Nat) (w : World) : (callFunc 31 #[.int .u64 (b : Int)]).run Try.prog w = .ok (.value (.float .f64 b)) w := by
  rw [run_callFunc_extern Try.func31 (by kernel_rfl) (by kernel_rfl) (by kernel_rfl) (e := Extern.MathFloatBits.float64frombits) (by kernel_rfl)]
  rfl
theorem call33 (b : Nat) (hn : ∀ s t, Ieee.double.read b ≠ .nan s t) (w : World) : (callFunc 33 #[.float .f64 b]).run Try.prog w = .ok (.value (.float .f64 (Ieee.double.write ((Ieee.double.read b).integral .zero)))) w := by
  rw [run_callFunc_extern Try.func33 (by kernel_rfl) (by kernel_rfl) (by kernel_rfl) (e := Extern.MathFloor.toIntegral "math.archTrunc" .zero) (by kernel_rfl)]
  have : (Extern.MathFloor.toIntegral "math.archTrunc" .zero #[.float .f64 b]).run Try.prog w = .ok (.float .f64 (Ieee.double.write ((Ieee.double.read b).integral .zero))) w := by
    unfold Extern.MathFloor.toIntegral
    show (match FloatKind.f64.decode b with | .nan s t => _ | d => _ : Sem Value).run Try.prog w = _
    have hd : FloatKind.f64.decode b = Ieee.double.read b := rfl
    rw [hd]
    cases h : Ieee.double.read b with
    | nan s t => exact absurd h (hn s t)
    | number s m i => rfl
    | infinity s => rfl
  rw [this]
  rfl
theorem trunc_any (b : Nat) (n : Int) (h : Fl b n) (hn : n.natAbs < 9007199254740992) (w : World) : Calls Try.prog 30 #[.float .f64 b] w fun e w' => (∃ r, e = .returned (.float .f64 r) ∧ Fl r n) ∧ w = w' := by
  have hd : ∀ s t, Ieee.double.read b ≠ .nan s t := fun s t e => by
    obtain ⟨s', m, i, e', -⟩ := h.reads
    rw [e] at e'; cases e'
  have hc := call33 b hd
  have hf := h.trunc hn
  generalize Ieee.double.write ((Ieee.double.read b).integral .zero) = r at *
  go_enter Try.func30, Try.ntmps30
  go_wp2
  go_ret
  exact ⟨⟨r, rfl, hf⟩, rfl⟩

theorem bits_abs (b : Nat) (h : b < 18446744073709551616) : bits .andNot .u64 (b : Int) 9223372036854775808 = ((b % 9223372036854775808 : Nat) : Int) := by
  have h1 : (BitVec.ofInt 64 (b : Int)).toNat = b := by rw [BitVec.toNat_ofInt]; omega
  have h2 : (~~~ BitVec.ofInt 64 9223372036854775808).toNat = 2 ^ 63 - 1 := by decide
  show IntKind.u64.wrap (((BitVec.ofInt 64 (b : Int) &&& ~~~ BitVec.ofInt 64 9223372036854775808).toNat : Nat) : Int) = _
  rw [BitVec.toNat_and, h1, h2, Nat.and_two_pow_sub_one_eq_mod]
  simp [IntKind.wrap, IntKind.bits, IntKind.signed]
  omega
theorem read_abs {b : Nat} {s : Bool} {m : Nat} {i : Int} (h : Ieee.double.read b = .number s m i) : Ieee.double.read (b % 9223372036854775808) = .number false m i := by
  unfold Ieee.Format.read at h ⊢
  simp only [double_sign, double_binade, double_inf, double_least] at h ⊢
  have e1 : b % 9223372036854775808 % 9223372036854775808 = b % 9223372036854775808 := Nat.mod_mod _ _
  have e2 : (b % 9223372036854775808 / 9223372036854775808 % 2 == 1) = false := by
    rw [Nat.div_eq_of_lt (Nat.mod_lt _ (by omega))]; rfl
  rw [e1, e2]
  generalize b % 9223372036854775808 = r at *
  generalize (b / 9223372036854775808 % 2 == 1) = g at *
  by_cases c1 : r < 4503599627370496
  · rw [if_pos c1] at h ⊢
    injection h with h1 h2 h3
    rw [h2, h3]
  · rw [if_neg c1] at h ⊢
    by_cases c2 : r < 9218868437227405312
    · rw [if_pos c2] at h ⊢
      injection h with h1 h2 h3
      rw [h2, h3]
    · rw [if_neg c2] at h ⊢
      split at h <;> cases h
theorem Fl.abs {b : Nat} {n : Int} (h : Fl b n) (hn : n.natAbs < 9007199254740992) : Fl (b % 9223372036854775808) (n.natAbs : Int) := by
  refine ⟨?_, fun h0 => ?_, by have := Nat.mod_lt b (show 0 < 9223372036854775808 by omega); omega⟩
  · obtain ⟨s, m, i, e, hi, hi2, hv⟩ := h.reads
    refine ⟨false, m, i, read_abs e, hi, hi2, fun c hc => ?_⟩
    have := congrArg Int.natAbs (hv c hc)
    rw [signed_eq] at this ⊢
    rw [Int.natAbs_mul, Int.natAbs_mul] at this
    have p1 : ((2 : Int) ^ (i - c).toNat).natAbs = 2 ^ (i - c).toNat := by rw [Int.natAbs_pow]; rfl
    have p2 : ((2 : Int) ^ (-c).toNat).natAbs = 2 ^ (-c).toNat := by rw [Int.natAbs_pow]; rfl
    have p3 : (if s then -(m : Int) else (m : Int)).natAbs = m := by cases s <;> simp
    rw [p1, p2, p3] at this
    have := congrArg (fun x : Nat => (x : Int)) this
    simpa using this
  · have h1 : n ≠ 0 := by omega
    have hlog : n.natAbs.log2 < 53 := (Nat.log2_lt (by omega)).2 (by omega)
    have hb := h.word h1
    have w1 := write_num (decide (n < 0)) n.natAbs 0 (by omega) hn (by omega) (by omega)
    have w2 := write_num false n.natAbs 0 (by omega) hn (by omega) (by omega)
    have hb1 := (frac_bounds n.natAbs (by omega) hn).2
    have e2 : fl (n.natAbs : Int) = Ieee.double.write (.number false n.natAbs 0) := by
      rw [fl_eq]
      have : decide (((n.natAbs : Nat) : Int) < 0) = false := by simp
      rw [this]; rfl
    rw [e2, w2, hb, fl_eq, w1]
    generalize hE : (0 + (n.natAbs.log2 : Int) + 1022).toNat = E
    generalize n.natAbs * 2 ^ (52 - n.natAbs.log2) = M at *
    unfold Ieee.Format.word
    rw [double_sign]
    have hE2 : E ≤ 1075 := by omega
    cases decide (n < 0) <;> simp <;> omega
set_option maxHeartbeats 1000000 in
theorem abs_any (b : Nat) (n : Int) (h : Fl b n) (hn : n.natAbs < 9007199254740992) (w : World) : Calls Try.prog 27 #[.float .f64 b] w fun e w' => (∃ r, e = .returned (.float .f64 r) ∧ Fl r (n.natAbs : Int)) ∧ w = w' := by
  have h1 := call32 b
  have h2 := bits_abs b h.lt
  have hf := h.abs hn
  have h3 := call31 (b % 9223372036854775808)
  have g1 : (0 : Int) ≤ (b : Int) := by omega
  have g2 : (b : Int) < 18446744073709551616 := by have := h.lt; omega
  generalize b % 9223372036854775808 = r at *
  clear h
  go_enter Try.func27, Try.ntmps27
  go_wp2
  go_ret
  exact ⟨⟨r, rfl, hf⟩, rfl⟩
end Go.Proofs.Ytaaonafokkdadaa
