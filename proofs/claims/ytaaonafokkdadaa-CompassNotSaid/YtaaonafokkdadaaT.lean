/-
  What chains the worlds of a law; the greater of two words, a point's opposite, differences of points.
-/
import Derived.Test.YtaaonafokkdadaaS
namespace Go.Proofs.Ytaaonafokkdadaa
open Go Go.RowKit Go.Shelf

def Good (w0 w : World) : Prop := Below w0.heap.size w0 w
theorem Good.below {w0 w w' : World} (h : Good w0 w) (hb : Below w.heap.size w w') : Good w0 w' := Below.trans h (hb.mono (Below.size h))
theorem Good.start (w : World) : Good w w := Below.refl _ _
theorem Good.drew {w0 w : World} (h : Good w0 w) : Good w0 w.drew := Below.drew h

theorem unary_neg_complex (a b : Nat) : Op.unary .neg (.complex .f64 a b) = pure (.complex .f64 (ng a) (ng b)) := rfl
theorem Pl.neg {a b : Nat} {p : Int} (h : Pl a b p) : Pl (ng a) (ng b) ((p + 32768) % 65536) := by
  have hs := pt_sum p h.low h.high
  have h0 := h.low
  have h1 := h.high
  have e : ptF ((p + 32768) % 65536) = (-(ptF p).1, -(ptF p).2) := by
    have := pt_rot p h0 h1 2
    rw [show (p + 16384 * ((2 : Nat) : Int)) % 65536 = (p + 32768) % 65536 by omega] at this
    rw [← this]
    rfl
  exact pl_of (by omega) (by omega) (h.re.neg (by omega)) (h.im.neg (by omega)) e

/-- The greater of two words that are whole numbers. -/
theorem max_fl {a b : Nat} {x y : Int} (ha : Fl a x) (hb : Fl b y) : ∃ r, (∀ (P : Program) (ts : Array TypeId) (t : TypeId) (w : World), (Builtin.max_ ts t #[.float .f64 a, .float .f64 b]).run P w = .ok (.float .f64 r) w) ∧ Fl r (max x y) := by
  have ho := ord ha hb
  rcases Int.lt_trichotomy x y with c | c | c
  · rw [cmp_lt c] at ho
    refine ⟨b, fun P ts t w => ?_, by rw [Int.max_eq_right (by omega)]; exact hb⟩
    simp [Builtin.max_, Builtin.max2, ho]
  · rw [cmp_eq c] at ho
    refine ⟨if (FloatKind.f64.decode a).neg then b else a, fun P ts t w => ?_, ?_⟩
    · simp [Builtin.max_, Builtin.max2, ho]
    · subst c
      rw [Int.max_self]
      split
      · exact hb
      · exact ha
  · rw [cmp_gt c] at ho
    refine ⟨a, fun P ts t w => ?_, by rw [Int.max_eq_left (by omega)]; exact ha⟩
    simp [Builtin.max_, Builtin.max2, ho]
/-- A part's size, as the law tells it. -/
theorem size_fl {a : Nat} {x : Int} (ha : Fl a x) (hx : x.natAbs ≤ 1000000) : ∃ r, (∀ (P : Program) (ts : Array TypeId) (t : TypeId) (w : World), (Builtin.max_ ts t #[.float .f64 a, .float .f64 (ng a)]).run P w = .ok (.float .f64 r) w) ∧ Fl r (x.natAbs : Int) := by
  obtain ⟨r, h1, h2⟩ := max_fl ha (ha.neg (by omega))
  refine ⟨r, h1, ?_⟩
  rw [show max x (-x) = (x.natAbs : Int) by omega] at h2
  exact h2
/-- Differences of points. -/
theorem csub_fl {a b c d : Nat} {x y u v : Int} (ha : Fl a x) (hb : Fl b y) (hc : Fl c u) (hd : Fl d v) (h1 : (x - u).natAbs ≤ 1000000) (h2 : (y - v).natAbs ≤ 1000000) :
    ∃ r i, (∀ (P : Program) (t : TypeId) (w : World), (binOp .sub t (.complex .f64 a b) (.complex .f64 c d)).run P w = .ok (.complex .f64 r i) w) ∧ Fl r (x - u) ∧ Fl i (y - v) := by
  obtain ⟨r, e1, f1⟩ := ha.sub hc (by omega)
  obtain ⟨i, e2, f2⟩ := hb.sub hd (by omega)
  refine ⟨r, i, fun P t w => ?_, f1, f2⟩
  refine run_complex_sum w .sub (.inr rfl) t .f64 a b c d r i ?_
  unfold cSumBits
  simp only [e1, e2, Option.bind_some]
end Go.Proofs.Ytaaonafokkdadaa
