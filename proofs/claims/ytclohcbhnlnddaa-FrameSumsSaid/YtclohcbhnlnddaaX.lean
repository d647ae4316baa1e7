/-
  Bursts, in plain Lean: bits that are turned, frames that are longer or shorter.
  Conditions: none beyond those that each lemma states.
-/
import Derived.Test.YtclohcbhnlnddaaV
namespace Go.Proofs.Ytclohcbhnlnddaa
open Go.RowKit Go.Shelf

/-- Bit number p turned. -/
def flip (l : List (BitVec 8)) (p : Nat) : List (BitVec 8) := l.set (p / 8) (((l[p / 8]?).getD 0#8) ^^^ (128#8 >>> (p % 8)))
theorem flip_length (l : List (BitVec 8)) (p : Nat) : (flip l p).length = l.length := List.length_set
theorem mask_bit (k j : Nat) (_hj : j < 8) : (128#8 >>> k).getLsbD j = decide (k + j = 7) := by
  rw [BitVec.getLsbD_ushiftRight]
  have : ∀ m : Nat, (128#8 : BitVec 8).getLsbD m = decide (m = 7) := fun m => by
    by_cases hm : m < 8
    · match m, hm with
      | 0, _ => rfl
      | 1, _ => rfl
      | 2, _ => rfl
      | 3, _ => rfl
      | 4, _ => rfl
      | 5, _ => rfl
      | 6, _ => rfl
      | 7, _ => rfl
    · rw [BitVec.getLsbD_of_ge _ _ (by omega)]
      rw [decide_eq_false (by omega)]
  rw [this]
theorem flip_bit (l : List (BitVec 8)) (p q : Nat) (hp : p < 8 * l.length) : (bitsOf (flip l p))[q]? = ((bitsOf l)[q]?).map (· ^^ decide (q = p)) := by
  rw [bitsOf_get, bitsOf_get]
  unfold flip
  by_cases h : p / 8 = q / 8
  · rw [← h, List.getElem?_set_self (by omega), List.getElem?_eq_getElem (by omega : p / 8 < l.length)]
    simp only [Option.map_some, Option.getD_some]
    rw [BitVec.getLsbD_xor, mask_bit _ _ (by omega)]
    congr 2
    rw [decide_eq_decide]
    constructor <;> intro h2 <;> omega
  · rw [List.getElem?_set_ne h, decide_eq_false (by omega)]
    cases l[q / 8]? <;> simp
def burstL (l : List (BitVec 8)) (A : Nat) (Y : BitVec 32) : Nat → List (BitVec 8)
  | 0 => l
  | i + 1 => if Y.getLsbD i = true then flip (burstL l A Y i) (A + i) else burstL l A Y i
theorem burstL_length (l : List (BitVec 8)) (A : Nat) (Y : BitVec 32) (i : Nat) : (burstL l A Y i).length = l.length := by
  induction i with
  | zero => rfl
  | succ i ih =>
    rw [burstL]
    split
    · rw [flip_length, ih]
    · exact ih
theorem burstL_bit (l : List (BitVec 8)) (A : Nat) (Y : BitVec 32) (i : Nat) (h : A + i ≤ 8 * l.length) (q : Nat) :
    (bitsOf (burstL l A Y i))[q]? = ((bitsOf l)[q]?).map (· ^^ (decide (A ≤ q ∧ q < A + i) && Y.getLsbD (q - A))) := by
  induction i with
  | zero =>
    rw [burstL, decide_eq_false (by omega)]
    cases (bitsOf l)[q]? <;> simp
  | succ i ih =>
    have ih := ih (by omega)
    rw [burstL]
    split
    · rename_i hy
      rw [flip_bit _ _ _ (by rw [burstL_length]; omega), ih]
      cases (bitsOf l)[q]? with
      | none => rfl
      | some b =>
        simp only [Option.map_some]
        by_cases hq : q = A + i
        · subst hq
          rw [decide_eq_false (show ¬ (A ≤ A + i ∧ A + i < A + i) by omega), decide_eq_true (show A ≤ A + i ∧ A + i < A + (i + 1) by omega), Nat.add_sub_cancel_left, hy]
          simp
        · rw [decide_eq_false hq, show decide (A ≤ q ∧ q < A + (i + 1)) = decide (A ≤ q ∧ q < A + i) by rw [decide_eq_decide]; omega]
          simp
    · rename_i hy
      rw [ih]
      cases (bitsOf l)[q]? with
      | none => rfl
      | some b =>
        simp only [Option.map_some]
        by_cases hq : q = A + i
        · subst hq
          rw [decide_eq_false (show ¬ (A ≤ A + i ∧ A + i < A + i) by omega), Nat.add_sub_cancel_left]
          simp [hy]
        · rw [show decide (A ≤ q ∧ q < A + (i + 1)) = decide (A ≤ q ∧ q < A + i) by rw [decide_eq_decide]; omega]
theorem burstL_null (l : List (BitVec 8)) (A : Nat) (i : Nat) : burstL l A 0#32 i = l := by
  induction i with
  | zero => rfl
  | succ i ih => rw [burstL, if_neg (by simp), ih]
theorem burst_no {l : List (BitVec 8)} (ho : opens l = true) {A : Nat} (hA : A + 32 ≤ 8 * l.length) {Y : BitVec 32} (hy : Y ≠ 0#32) : opens (burstL l A Y 32) = false := by
  rw [Bool.eq_false_iff]; intro hD
  have e := burst_same l (burstL l A Y 32) (burstL_length l A Y 32).symm ones (opens_null ho) (opens_null hD) A (fun p hp => by
    rw [burstL_bit _ _ _ _ hA, decide_eq_false (by omega)]
    cases (bitsOf l)[p]? <;> simp)
  apply hy
  refine BitVec.eq_of_getLsbD_eq fun i hi => ?_
  have h := burstL_bit l A Y 32 hA (A + i)
  rw [← e, decide_eq_true (by omega), Nat.add_sub_cancel_left, List.getElem?_eq_getElem (by rw [bitsOf_length]; omega)] at h
  simp only [Option.map_some, Option.some.injEq, Bool.true_and] at h
  rw [BitVec.getLsbD_zero]
  revert h
  cases Y.getLsbD i <;> cases (bitsOf l)[A + i]'(by rw [bitsOf_length]; omega) <;> simp

theorem close_three (p : List (BitVec 8)) : (closeF p)[3]? = some (BitVec.ofNat 8 p.length) := rfl
theorem opens_other {p b : List (BitVec 8)} (hp : p.length ≤ 112) (h3 : b[3]? = (closeF p)[3]?) (hl : b.length ≠ p.length + 8) : opens b = false := by
  rw [Bool.eq_false_iff]; intro ho
  have h := (looks_of_opens ho).2.2.2.1
  have hb := opens_parts ho
  rw [h3, close_three] at h
  have := congrArg BitVec.toNat (Option.some.inj h)
  rw [BitVec.toNat_ofNat, BitVec.toNat_ofNat] at this
  omega
theorem openE_longer {p : List (BitVec 8)} (hp : p.length ≤ 112) (z : BitVec 8) : openE (closeF p ++ [z]) = 12 := by
  have hl := closeF_length p
  refine openE_no (by rw [List.length_append, hl]; omega) (opens_other hp ?_ (by rw [List.length_append, hl]; simp))
  rw [List.getElem?_append_left (by omega)]
theorem openE_shorter {p : List (BitVec 8)} (hp : p.length ≤ 112) (h0 : 0 < p.length) : openE ((closeF p).take ((closeF p).length - 1)) = 12 := by
  have hl := closeF_length p
  refine openE_no (by rw [List.length_take, hl]; omega) (opens_other hp ?_ (by rw [List.length_take, hl]; omega))
  rw [List.getElem?_take_of_lt (by omega)]
theorem openE_shortest {p : List (BitVec 8)} (h0 : p.length = 0) : openE ((closeF p).take ((closeF p).length - 1)) = 11 := by
  have hl := closeF_length p
  exact openE_short (by rw [List.length_take, hl]; omega)
theorem bit_and32 (b : BitVec 32) (k : Nat) : (bits .and .u32 ((b.toNat : Int) / 2 ^ k) 1 == 1) = b.getLsbD k := by
  have e : ((b.toNat : Int) / 2 ^ k) = ((b.toNat / 2 ^ k : Nat) : Int) := by simp
  have hlt : b.toNat / 2 ^ k < 2 ^ 32 := Nat.lt_of_le_of_lt (Nat.div_le_self _ _) b.isLt
  have h2 : (BitVec.ofInt 32 1).toNat = 2 ^ 1 - 1 := by decide
  rw [e]
  generalize hq : b.toNat / 2 ^ k = q at hlt
  have h1 : (BitVec.ofInt 32 (q : Int)).toNat = q := by rw [BitVec.toNat_ofInt]; omega
  have h3 : bits .and .u32 (q : Int) 1 = ((q % 2 : Nat) : Int) := by
    show IntKind.u32.wrap (((BitVec.ofInt 32 (q : Int) &&& BitVec.ofInt 32 1).toNat : Nat) : Int) = _
    rw [BitVec.toNat_and, h1, h2, Nat.and_two_pow_sub_one_eq_mod, wrap_u32]
    omega
  rw [h3, BitVec.getLsbD, Nat.testBit_eq_decide_div_mod_eq, hq, Bool.eq_iff_iff]
  simp only [beq_iff_eq, decide_eq_true_eq]
  omega
theorem mask_value (k : Nat) : ((128#8 >>> k).toNat : Int) = 128 / 2 ^ k := by
  rw [BitVec.toNat_ushiftRight, Nat.shiftRight_eq_div_pow]
  simp
theorem OwnB.set_n {w0 w : World} {g n cap : Nat} {xs : List (BitVec 8)} (hn : n = xs.length) (h : OwnB w0 w (.slice (some ⟨g, 0, none⟩) n cap) xs) (j : Nat) (x : BitVec 8) :
    OwnB w0 (w.setCell ⟨g, j, none⟩ (.int .u8 (x.toNat : Int))) (.slice (some ⟨g, 0, none⟩) n cap) (xs.set j x) := by
  subst hn; exact h.set j x
theorem OwnB.cell_n {w0 w : World} {g n cap : Nat} {xs : List (BitVec 8)} (hn : n = xs.length) (h : OwnB w0 w (.slice (some ⟨g, 0, none⟩) n cap) xs) {j : Nat} {x : BitVec 8} (hx : xs[j]? = some x) : w.cell? ⟨g, j, none⟩ = some (.int .u8 (x.toNat : Int)) := by
  subst hn; exact h.cell hx
theorem OwnB.free_n {w0 w : World} {g n cap : Nat} {xs : List (BitVec 8)} (hn : n = xs.length) (h : OwnB w0 w (.slice (some ⟨g, 0, none⟩) n cap) xs) (j : Nat) : w.frozen? ⟨g, j, none⟩ = false := by
  subst hn; exact h.free j
end Go.Proofs.Ytclohcbhnlnddaa
