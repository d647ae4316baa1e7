/-
  Places and their points, in plain numbers; each function of the two packages, told by places.
  Conditions: none beyond those that each lemma states.
-/
import Derived.Test.YtaaonafokkdadaaP
namespace Go.Proofs.Ytaaonafokkdadaa
open Go Go.RowKit Go.Shelf
attribute [local go_sem] Oper.semAt_some run_store_complex unary_neg_float

theorem pt_val (p : Int) (h0 : 0 ≤ p) (h1 : p < 65536) : (p < 16384 ∧ ptF p = (16384 - p, p)) ∨ (16384 ≤ p ∧ p < 32768 ∧ ptF p = (16384 - p, 32768 - p)) ∨ (32768 ≤ p ∧ p < 49152 ∧ ptF p = (p - 49152, 32768 - p)) ∨ (49152 ≤ p ∧ ptF p = (p - 49152, p - 65536)) := by
  unfold ptF
  have hq : p / 16384 = 0 ∨ p / 16384 = 1 ∨ p / 16384 = 2 ∨ p / 16384 = 3 := by omega
  rcases hq with h | h | h | h
  · refine .inl ⟨by omega, ?_⟩
    rw [h]
    show (16384 - p % 16384, p % 16384) = _
    refine Prod.ext ?_ ?_ <;> simp only [] <;> omega
  · refine .inr (.inl ⟨by omega, by omega, ?_⟩)
    rw [h]
    show (-(p % 16384), 16384 - p % 16384) = _
    refine Prod.ext ?_ ?_ <;> simp only [] <;> omega
  · refine .inr (.inr (.inl ⟨by omega, by omega, ?_⟩))
    rw [h]
    show (-(16384 - p % 16384), -(p % 16384)) = _
    refine Prod.ext ?_ ?_ <;> simp only [] <;> omega
  · refine .inr (.inr (.inr ⟨by omega, ?_⟩))
    rw [h]
    show (-(-(p % 16384)), -(16384 - p % 16384)) = _
    refine Prod.ext ?_ ?_ <;> simp only [] <;> omega
theorem pt_sum (p : Int) (h0 : 0 ≤ p) (h1 : p < 65536) : (ptF p).1.natAbs + (ptF p).2.natAbs = 16384 := by
  rcases pt_val p h0 h1 with ⟨_, e⟩ | ⟨_, _, e⟩ | ⟨_, _, e⟩ | ⟨_, e⟩ <;> rw [e] <;> simp only [] <;> omega
theorem pt_inj (p q : Int) (h0 : 0 ≤ p) (h1 : p < 65536) (g0 : 0 ≤ q) (g1 : q < 65536) (ha : (ptF p).1 = (ptF q).1) (hb : (ptF p).2 = (ptF q).2) : p = q := by
  rcases pt_val p h0 h1 with ⟨_, e⟩ | ⟨_, _, e⟩ | ⟨_, _, e⟩ | ⟨_, e⟩ <;> rw [e] at ha hb <;> simp only [] at ha hb <;>
    rcases pt_val q g0 g1 with ⟨_, f⟩ | ⟨_, _, f⟩ | ⟨_, _, f⟩ | ⟨_, f⟩ <;> rw [f] at ha hb <;> simp only [] at ha hb <;> omega
theorem pt_turn (p : Int) (h0 : 0 ≤ p) (h1 : p < 65536) : ptF ((p + 16384) % 65536) = (-(ptF p).2, (ptF p).1) := by
  have hr : ∃ r, (p + 16384) % 65536 = r ∧ 0 ≤ r ∧ r < 65536 := ⟨_, rfl, by omega, by omega⟩
  obtain ⟨r, hr, r0, r1⟩ := hr
  rw [hr]
  rcases pt_val p h0 h1 with ⟨_, e⟩ | ⟨_, _, e⟩ | ⟨_, _, e⟩ | ⟨_, e⟩ <;> rw [e] <;>
    rcases pt_val r r0 r1 with ⟨_, f⟩ | ⟨_, _, f⟩ | ⟨_, _, f⟩ | ⟨_, f⟩ <;> rw [f] <;> refine Prod.ext ?_ ?_ <;> simp only [] <;> omega
theorem pt_rot (p : Int) (h0 : 0 ≤ p) (h1 : p < 65536) (k : Nat) : rot (ptF p).1 (ptF p).2 k = ptF ((p + 16384 * (k : Int)) % 65536) := by
  induction k with
  | zero => rw [show (p + 16384 * ((0 : Nat) : Int)) % 65536 = p by omega]; rfl
  | succ k ih =>
    show (-(rot (ptF p).1 (ptF p).2 k).2, (rot (ptF p).1 (ptF p).2 k).1) = _
    rw [ih, ← pt_turn _ (by omega) (by omega)]
    congr 1
    omega
theorem Fl.unique {b : Nat} {n m : Int} (h : Fl b n) (g : Fl b m) : n = m := by
  have h1 := ord h g
  have h2 := ord h h
  rw [cmp_eq rfl] at h2
  have e : compare n m = .eq := Option.some.inj (h1.symm.trans h2)
  rcases Int.lt_trichotomy n m with c | c | c
  · rw [cmp_lt c] at e; cases e
  · exact c
  · rw [cmp_gt c] at e; cases e

/-- The words are place p's point. -/
structure Pl (a b : Nat) (p : Int) : Prop where
  low : 0 ≤ p
  high : p < 65536
  re : Fl a (ptF p).1
  im : Fl b (ptF p).2
theorem Pl.pt {a b : Nat} {p : Int} (h : Pl a b p) : Pt a b := ⟨_, _, h.re, h.im, pt_sum p h.low h.high⟩
theorem Pl.unique {a b : Nat} {p q : Int} (h : Pl a b p) (g : Pl a b q) : p = q := pt_inj p q h.low h.high g.low g.high (h.re.unique g.re) (h.im.unique g.im)
theorem Pt.pl {a b : Nat} (h : Pt a b) : ∃ p, Pl a b p := by
  obtain ⟨x, y, ha, hb, hs⟩ := h
  have key : ∃ p, 0 ≤ p ∧ p < 65536 ∧ ptF p = (x, y) := by
    by_cases c1 : 0 < x ∧ 0 ≤ y
    · refine ⟨y, by omega, by omega, ?_⟩
      rcases pt_val y (by omega) (by omega) with ⟨_, e⟩ | ⟨_, _, e⟩ | ⟨_, _, e⟩ | ⟨_, e⟩ <;> rw [e] <;> refine Prod.ext ?_ ?_ <;> simp only [] <;> omega
    · by_cases c2 : x ≤ 0 ∧ 0 < y
      · refine ⟨16384 - x, by omega, by omega, ?_⟩
        rcases pt_val (16384 - x) (by omega) (by omega) with ⟨_, e⟩ | ⟨_, _, e⟩ | ⟨_, _, e⟩ | ⟨_, e⟩ <;> rw [e] <;> refine Prod.ext ?_ ?_ <;> simp only [] <;> omega
      · by_cases c3 : x < 0 ∧ y ≤ 0
        · refine ⟨32768 - y, by omega, by omega, ?_⟩
          rcases pt_val (32768 - y) (by omega) (by omega) with ⟨_, e⟩ | ⟨_, _, e⟩ | ⟨_, _, e⟩ | ⟨_, e⟩ <;> rw [e] <;> refine Prod.ext ?_ ?_ <;> simp only [] <;> omega
        · refine ⟨65536 + y, by omega, by omega, ?_⟩
          rcases pt_val (65536 + y) (by omega) (by omega) with ⟨_, e⟩ | ⟨_, _, e⟩ | ⟨_, _, e⟩ | ⟨_, e⟩ <;> rw [e] <;> refine Prod.ext ?_ ?_ <;> simp only [] <;> omega
  obtain ⟨p, h0, h1, e⟩ := key
  exact ⟨p, h0, h1, by rw [e]; exact ha, by rw [e]; exact hb⟩
/-- How two points stand to each other, as the walk asks it. -/
theorem Pl.eq {a b c d : Nat} {p q : Int} (h : Pl a b p) (g : Pl c d q) : ((FloatKind.f64.format.order a c == some .eq) && (FloatKind.f64.format.order b d == some .eq)) = decide (p = q) := by
  rw [ord h.re g.re, ord h.im g.im]
  by_cases e : p = q
  · subst e
    rw [cmp_eq rfl, cmp_eq rfl]
    simp
  · rw [decide_eq_false e]
    have hne : ¬ ((ptF p).1 = (ptF q).1 ∧ (ptF p).2 = (ptF q).2) := fun ⟨h1, h2⟩ => e (pt_inj p q h.low h.high g.low g.high h1 h2)
    have key : ∀ x y : Int, x ≠ y → (some (compare x y) == some Ordering.eq) = false := fun x y hxy => by
      rcases Int.lt_or_gt_of_ne hxy with c | c
      · rw [cmp_lt c]; rfl
      · rw [cmp_gt c]; rfl
    by_cases h1 : (ptF p).1 = (ptF q).1
    · rw [key _ _ (fun h2 => hne ⟨h1, h2⟩), Bool.and_false]
    · rw [key _ _ h1, Bool.false_and]

theorem at_pl (p : Int) (h0 : 0 ≤ p) (h1 : p < 65536) (w : World) : Calls Try.prog 8 #[.int .i64 p] w fun e w' =>
    (∃ a b, e = .returned (.tuple #[.complex .f64 a b, .int .i64 0]) ∧ Pl a b p) ∧ Below w.heap.size w w' := by
  have hs := pt_sum p h0 h1
  refine (callsIn_wide.1 (at_in p h0 h1 w)).mono ?_
  rintro e w' ⟨rfl, hb⟩
  exact ⟨⟨_, _, rfl, h0, h1, fl_Fl _ (by omega), fl_Fl _ (by omega)⟩, hb⟩
theorem right_pl {a b : Nat} {p : Int} (h : Pl a b p) (w : World) : Calls Try.prog 12 #[.complex .f64 a b] w fun e w' => e = .returned (.bool true) ∧ w = w' :=
  right_yes a b _ _ h.re h.im (pt_sum p h.low h.high) w
theorem turned_pl {a b : Nat} {p : Int} (h : Pl a b p) (q : Int) (w : World) : Calls Try.prog 14 #[.complex .f64 a b, .int .i64 q] w fun e w' =>
    (∃ c d, e = .returned (.complex .f64 c d) ∧ Pl c d ((p + 16384 * q) % 65536)) ∧ Below w.heap.size w w' := by
  have hs := pt_sum p h.low h.high
  refine (callsIn_wide.1 (turned_in a b _ _ h.re h.im hs q w)).mono ?_
  rintro e w' ⟨rfl, hb⟩
  have hw := wd_fl h.re h.im (by omega) (by omega) (q % 4).toNat
  rw [pt_rot p h.low h.high, show (p + 16384 * (((q % 4).toNat : Nat) : Int)) % 65536 = (p + 16384 * q) % 65536 by omega] at hw
  exact ⟨⟨_, _, rfl, by omega, by omega, hw.1, hw.2⟩, hb⟩
theorem of_pl {a b : Nat} {p : Int} (h : Pl a b p) (w : World) : Calls Try.prog 10 #[.complex .f64 a b] w fun e w' =>
    e = .returned (.tuple #[.int .i64 p, .int .i64 0]) ∧ Below w.heap.size w w' := by
  have hs := pt_sum p h.low h.high
  have hlow := h.low
  have hhigh := h.high
  have hr := fun k => pt_rot p h.low h.high k
  obtain ⟨k0, hk0⟩ : ∃ k0 : Nat, (k0 : Int) = (4 - p / 16384) % 4 := ⟨((4 - p / 16384) % 4).toNat, by omega⟩
  have hval : ∀ k : Nat, (0 < (rot (ptF p).1 (ptF p).2 k).1 ∧ 0 ≤ (rot (ptF p).1 (ptF p).2 k).2) ↔ (p + 16384 * (k : Int)) % 65536 < 16384 := fun k => by
    rw [hr k]
    have hr : ∃ r, (p + 16384 * (k : Int)) % 65536 = r ∧ 0 ≤ r ∧ r < 65536 := ⟨_, rfl, by omega, by omega⟩
    obtain ⟨r, hr, r0, r1⟩ := hr
    rw [hr]
    rcases pt_val r r0 r1 with ⟨_, f⟩ | ⟨_, _, f⟩ | ⟨_, _, f⟩ | ⟨_, f⟩ <;> rw [f] <;> simp only [] <;> omega
  have hk := (hval k0).2 (by omega)
  have e2 : (rot (ptF p).1 (ptF p).2 k0).2 = p % 16384 := by
    rw [hr k0]
    have hr : ∃ r, (p + 16384 * (k0 : Int)) % 65536 = r ∧ 0 ≤ r ∧ r < 16384 ∧ r = p % 16384 := ⟨_, rfl, by omega, by omega, by omega⟩
    obtain ⟨r, hr, r0, r1, r2⟩ := hr
    rw [hr]
    rcases pt_val r r0 (by omega) with ⟨_, f⟩ | ⟨_, _, f⟩ | ⟨_, _, f⟩ | ⟨_, f⟩ <;> rw [f] <;> simp only [] <;> omega
  refine (callsIn_wide.1 (of_in a b _ _ h.re h.im hs k0 (by omega) hk (fun k hk1 hk2 => by have := (hval k).1 hk2; omega) w)).mono ?_
  rintro e w' ⟨rfl, hb⟩
  rw [e2, show -(k0 : Int) % 4 * 16384 + p % 16384 = p by omega]
  exact ⟨rfl, hb⟩
theorem of_not {a b : Nat} (ha : a < 18446744073709551616) (hb : b < 18446744073709551616) (h : ¬ Pt a b) (w : World) : Calls Try.prog 10 #[.complex .f64 a b] w fun e w' =>
    e = .returned (.tuple #[.int .i64 0, .int .i64 2]) ∧ Below w.heap.size w w' := of_no a b (right_not a b ha hb h) w
theorem turned_not {a b : Nat} (ha : a < 18446744073709551616) (hb : b < 18446744073709551616) (h : ¬ Pt a b) (q : Int) (w : World) : Calls Try.prog 14 #[.complex .f64 a b, .int .i64 q] w fun e w' =>
    e = .returned (.complex .f64 0 0) ∧ Below w.heap.size w w' := turned_no a b q (right_not a b ha hb h) w

/-- The reference's Of. -/
def br (x y : Int) : Nat → Int × Int
  | 0 => (x, y)
  | k + 1 => ((br x y k).2, -(br x y k).1)
theorem zb_fl {a b : Nat} {x y : Int} (ha : Fl a x) (hb : Fl b y) (hx : x.natAbs ≤ 1000000) (hy : y.natAbs ≤ 1000000) (k : Nat) :
    (Fl (zb a b k).1 (br x y k).1 ∧ Fl (zb a b k).2 (br x y k).2) ∧ (br x y k).1.natAbs ≤ 1000000 ∧ (br x y k).2.natAbs ≤ 1000000 := by
  induction k with
  | zero => exact ⟨⟨ha, hb⟩, hx, hy⟩
  | succ k ih =>
    refine ⟨⟨ih.1.2, ih.1.1.neg (by omega)⟩, ?_⟩
    show (br x y k).2.natAbs ≤ 1000000 ∧ (-(br x y k).1).natAbs ≤ 1000000
    omega
theorem refof_pl {a b : Nat} {p : Int} (h : Pl a b p) (w : World) : Calls Try.prog 11 #[.complex .f64 a b] w fun e w' => e = .returned (.tuple #[.int .i64 p, .int .i64 0]) ∧ w = w' := by
  have hs := pt_sum p h.low h.high
  have hlow := h.low
  have hhigh := h.high
  have hz := fun k => zb_fl h.re h.im (by omega) (by omega) k
  refine (refof_any a b h.re.lt h.im.lt w).mono ?_
  have b0 : br (ptF p).1 (ptF p).2 0 = ((ptF p).1, (ptF p).2) := rfl
  have b1 : br (ptF p).1 (ptF p).2 1 = ((ptF p).2, -(ptF p).1) := rfl
  have b2 : br (ptF p).1 (ptF p).2 2 = (-(ptF p).1, -(ptF p).2) := rfl
  have b3 : br (ptF p).1 (ptF p).2 3 = (-(ptF p).2, -(-(ptF p).1)) := rfl
  rintro e w' ⟨⟨k, m, hk, -, ⟨n, f1, n1, f2, m0, hnm⟩, rfl⟩ | ⟨hno, rfl⟩, rfl⟩
  · refine ⟨?_, rfl⟩
    have e1 := f1.unique (hz k).1.1
    have e2 := f2.unique (hz k).1.2
    have : (k : Int) * 16384 + m = p := by
      rcases (show k = 0 ∨ k = 1 ∨ k = 2 ∨ k = 3 by omega) with rfl | rfl | rfl | rfl
      · rw [b0] at e1 e2
        rcases pt_val p hlow hhigh with ⟨_, e⟩ | ⟨_, _, e⟩ | ⟨_, _, e⟩ | ⟨_, e⟩ <;> rw [e] at e1 e2 <;> simp only [] at e1 e2 <;> omega
      · rw [b1] at e1 e2
        rcases pt_val p hlow hhigh with ⟨_, e⟩ | ⟨_, _, e⟩ | ⟨_, _, e⟩ | ⟨_, e⟩ <;> rw [e] at e1 e2 <;> simp only [] at e1 e2 <;> omega
      · rw [b2] at e1 e2
        rcases pt_val p hlow hhigh with ⟨_, e⟩ | ⟨_, _, e⟩ | ⟨_, _, e⟩ | ⟨_, e⟩ <;> rw [e] at e1 e2 <;> simp only [] at e1 e2 <;> omega
      · rw [b3] at e1 e2
        rcases pt_val p hlow hhigh with ⟨_, e⟩ | ⟨_, _, e⟩ | ⟨_, _, e⟩ | ⟨_, e⟩ <;> rw [e] at e1 e2 <;> simp only [] at e1 e2 <;> omega
    rw [this]
  · exfalso
    rcases pt_val p hlow hhigh with ⟨_, e⟩ | ⟨_, _, e⟩ | ⟨_, _, e⟩ | ⟨_, e⟩
    · have f := (hz 0).1
      rw [b0, e] at f
      exact hno 0 (by omega) _ ⟨_, f.1, by simp only []; omega, f.2, by simp only []; omega, by simp only []; omega⟩
    · have f := (hz 1).1
      rw [b1, e] at f
      exact hno 1 (by omega) _ ⟨_, f.1, by simp only []; omega, f.2, by simp only []; omega, by simp only []; omega⟩
    · have f := (hz 2).1
      rw [b2, e] at f
      exact hno 2 (by omega) _ ⟨_, f.1, by simp only []; omega, f.2, by simp only []; omega, by simp only []; omega⟩
    · have f := (hz 3).1
      rw [b3, e] at f
      exact hno 3 (by omega) _ ⟨_, f.1, by simp only []; omega, f.2, by simp only []; omega, by simp only []; omega⟩
theorem pt_zb {a b : Nat} (ha : a < 18446744073709551616) (hb : b < 18446744073709551616) (k : Nat) (h : Pt (zb a b k).1 (zb a b k).2) : Pt a b := by
  induction k with
  | zero => exact h
  | succ k ih =>
    refine ih ?_
    obtain ⟨x, y, fx, fy, hs⟩ := h
    have hn := fy.neg (by omega)
    have e : ng (zb a b (k + 1)).2 = (zb a b k).1 := ng_ng _ (zb_lt ha hb k).1
    rw [e] at hn
    exact ⟨-y, x, hn, fx, by omega⟩
theorem refof_not {a b : Nat} (ha : a < 18446744073709551616) (hb : b < 18446744073709551616) (h : ¬ Pt a b) (w : World) : Calls Try.prog 11 #[.complex .f64 a b] w fun e w' => e = .returned (.tuple #[.int .i64 0, .int .i64 2]) ∧ w = w' := by
  refine (refof_any a b ha hb w).mono ?_
  rintro e w' ⟨⟨k, m, hk, -, ⟨n, f1, n1, f2, m0, hnm⟩, rfl⟩ | ⟨hno, rfl⟩, rfl⟩
  · exact absurd (pt_zb ha hb k ⟨n, m, f1, f2, by omega⟩) h
  · exact ⟨rfl, rfl⟩
end Go.Proofs.Ytaaonafokkdadaa
