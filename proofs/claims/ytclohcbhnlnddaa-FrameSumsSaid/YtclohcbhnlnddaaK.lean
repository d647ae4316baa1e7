/-
  The contracts in the form in which the laws use them.
-/
import Derived.Test.YtclohcbhnlnddaaI
namespace Go.Proofs.Ytclohcbhnlnddaa
open Go.RowKit Go.Shelf

/-- w0 has at most grown to w. -/
def Good (w0 w : World) : Prop := Below w0.heap.size w0 w
theorem Good.below {w0 w w' : World} (h : Good w0 w) (hb : Below w.heap.size w w') : Good w0 w' := Below.trans h (hb.mono (Below.size h))
theorem Good.start (w : World) : Good w w := Below.refl _ _
theorem Good.alloc {w0 w : World} (h : Good w0 w) (o : Obj) : Good w0 (w.alloc o) := h.below ((Below.refl _ w).alloc (Nat.le_refl _) o)

def closeE (p : List (BitVec 8)) : Int := if p.length ≤ 112 then 0 else 2
theorem closeE_yes {p : List (BitVec 8)} (h : p.length ≤ 112) : closeE p = 0 := if_pos h
theorem closeE_no {p : List (BitVec 8)} (h : 112 < p.length) : closeE p = 2 := if_neg (by omega)

theorem close_any (v : Value) (p : List (BitVec 8)) (w : World) (hp : Bytes w v p) : Calls Try.prog 10 #[v] w fun e w' =>
    ∃ u, e = .returned (.tuple #[u, .int .i64 (closeE p)]) ∧ (closeE p = 0 → Bytes w' u (closeF p)) ∧ (closeE p ≠ 0 → u = .slice none 0 0) ∧ Below w.heap.size w w' := by
  obtain ⟨a, cap, rfl, -⟩ := hp.shape
  by_cases h : p.length ≤ 112
  · rw [closeE_yes h]
    exact (close_yes a cap p h w hp).mono fun e w' ⟨u, he, hu, hb⟩ => ⟨u, he, fun _ => hu, fun h => absurd rfl h, hb⟩
  · rw [closeE_no (by omega)]
    exact (close_no a cap p (by omega) w).mono fun e w' ⟨he, hw⟩ => ⟨_, he, (fun h => by cases h), (fun _ => rfl), by subst hw; exact Below.refl _ _⟩
theorem refclose_any (v : Value) (p : List (BitVec 8)) (w : World) (hp : Bytes w v p) : Calls Try.prog 11 #[v] w fun e w' =>
    ∃ u, e = .returned (.tuple #[u, .int .i64 (closeE p)]) ∧ (closeE p = 0 → Bytes w' u (closeF p)) ∧ (closeE p ≠ 0 → u = .slice none 0 0) ∧ Below w.heap.size w w' := by
  obtain ⟨a, cap, rfl, -⟩ := hp.shape
  by_cases h : p.length ≤ 112
  · rw [closeE_yes h]
    exact (refclose_yes a cap p h w hp).mono fun e w' ⟨u, he, hu, hb⟩ => ⟨u, he, fun _ => hu, fun h => absurd rfl h, hb⟩
  · rw [closeE_no (by omega)]
    exact (refclose_no a cap p (by omega) w).mono fun e w' ⟨he, hw⟩ => ⟨_, he, (fun h => by cases h), (fun _ => rfl), by subst hw; exact Below.refl _ _⟩
theorem Bytes.some {w : World} {a : Option Addr} {n cap : Nat} {l : List (BitVec 8)} (h : Bytes w (.slice a n cap) l) (hl : 0 < l.length) : ∃ b off, a = some ⟨b, off, none⟩ := by
  obtain ⟨a', cap', e, -, -, h⟩ := h
  cases e
  rcases h with rfl | ⟨b, off, e, -, -⟩
  · simp at hl
  · exact ⟨b, off, e⟩
theorem open_any (v : Value) (bs : List (BitVec 8)) (w : World) (hv : Bytes w v bs) : Calls Try.prog 12 #[v] w fun e w' =>
    ∃ u, e = .returned (.tuple #[u, .int .i64 (openE bs)]) ∧ (openE bs = 0 → Bytes w' u (payload bs)) ∧ (openE bs ≠ 0 → u = .slice none 0 0) ∧ Below w.heap.size w w' := by
  obtain ⟨a, cap, rfl, -⟩ := hv.shape
  by_cases h : bs.length < 8
  · exact open_short a cap bs h w
  · obtain ⟨b, off, rfl⟩ := hv.some (by omega)
    exact open_long b off cap bs (by omega) w hv
theorem refopen_any (v : Value) (bs : List (BitVec 8)) (hmax : bs.length ≤ 1000) (w : World) (hv : Bytes w v bs) : Calls Try.prog 13 #[v] w fun e w' =>
    ∃ u, e = .returned (.tuple #[u, .int .i64 (openE bs)]) ∧ (openE bs = 0 → Bytes w' u (payload bs)) ∧ (openE bs ≠ 0 → u = .slice none 0 0) ∧ Below w.heap.size w w' := by
  obtain ⟨a, cap, rfl, -⟩ := hv.shape
  by_cases h : bs.length < 8
  · exact refopen_short a cap bs h w
  · obtain ⟨b, off, rfl⟩ := hv.some (by omega)
    exact refopen_long b off cap bs (by omega) hmax w hv
end Go.Proofs.Ytclohcbhnlnddaa
