/-
  What the tied table gives the walks, and the heap that the program's own start leaves.
-/
import Derived.Test.YtpalgphkpmhpjaaDoorRows
import Derived.Test.YtpalgphkpmhpjaaDoorTie
import Derived.Test.YtpalgphkpmhpjaaDoorCards
import Derived.Test.YtpalgphkpmhpjaaDoorC
import Derived.ProofKit
import Derived.LaidMore
import Derived.OpenShut
import Derived.Stop.Joined
import Derived.SevenTiedAt
namespace Go.Proofs.YtpalgphkpmhpjaaDoor
open Go.ChangeShapes Go.WideShapes Go.ChangeAt Go.RowKit

theorem own : ownKnob Tryd.prog.godebug = none := by kernel_rfl
theorem gWaits : Tryd.prog.globalNamed "garland/wait.waits" = some 0 := by kernel_rfl
theorem tWaits : (Tryd.prog.globals[0]?).map (·.type) = some 30 := by kernel_rfl
theorem c3 : Tryd.prog.cellsOf 3 = 1 := by kernel_rfl
theorem c30 : Tryd.prog.cellsOf 30 = 3 := by kernel_rfl

/-- The one listed variable. -/
def laid1 : List (String × DataW Unit) := [("garland/wait.waits", Rows.laid_garland_wait_waits)]

theorem door_met (os : Os) (args : Array Value) : laidMetH Tryd.prog laid1 ((World.doorLaid Tryd.prog 14 os).forCall (fun _ _ => 0) ⟨#[], args, []⟩).memory :=
  laidMetH_of_parts3 (fuel := 8) (laidMet_of_run' 8 (by kernel_rfl) (by kernel_rfl)) (by kernel_rfl) (by kernel_rfl)

theorem held_of_laid {W : World} (h : laidMetH Tryd.prog laid1 W) : Held W := by
  rw [MakeChecks.laidMetH_plain _ _ _ (by kernel_rfl)] at h
  obtain ⟨ps, ⟨g0, t0, cs0, f0, p0, q0, hg0, ht0, hv0, hd0, _, _⟩, _, _⟩ := h
  obtain rfl := Option.some.inj (gWaits.symm.trans hg0)
  obtain rfl := Option.some.inj (tWaits.symm.trans ht0)
  obtain ⟨xs, m1, rfl, hx1, hlen, hn3, hel⟩ := DataW.trod_array Tryd.underlying30 hd0
  simp only [Prod.mk.injEq] at hx1
  have hx2 := hx1.1
  unfold Rows.laid_garland_wait_waits at hx2
  obtain ⟨l⟩ := cs0
  rw [c30] at hlen
  obtain ⟨a0, a1, a2, rfl⟩ : ∃ a0 a1 a2, l = [a0, a1, a2] := by
    match l, hlen with
    | [a0, a1, a2], _ => exact ⟨_, _, _, rfl⟩
  have e0 := hel 0 (by decide)
  have e1 := hel 1 (by decide)
  have e2 := hel 2 (by decide)
  match xs, hn3, hx2, e0, e1, e2 with
  | [x0, x1, x2], _, hx2, e0, e1, e2 =>
    rw [c3] at e0 e1 e2
    simp only [List.map_cons, List.map_nil, DataW.agg.injEq, List.cons.injEq] at hx2
    obtain ⟨k0, i0, j0, _⟩ := DataW.trod_int Tryd.underlying3 (show DataW.trod _ Tryd.prog W 0 _ false m1 3 [a0] = some x0 from e0)
    obtain ⟨k1, i1, j1, _⟩ := DataW.trod_int Tryd.underlying3 (show DataW.trod _ Tryd.prog W 0 _ false m1 3 [a1] = some x1 from e1)
    obtain ⟨k2, i2, j2, _⟩ := DataW.trod_int Tryd.underlying3 (show DataW.trod _ Tryd.prog W 0 _ false m1 3 [a2] = some x2 from e2)
    obtain ⟨y0, y1, y2, -⟩ := hx2
    rw [j0] at y0
    rw [j1] at y1
    rw [j2] at y2
    have z0 : k0 = 1 := by simpa using y0.symm
    have z1 : k1 = 2 := by simpa using y1.symm
    have z2 : k2 = 4 := by simpa using y2.symm
    subst z0 z1 z2
    simp only [List.cons.injEq, and_true] at i0 i1 i2
    subst i0 i1 i2
    have v0 := World.var?_cell hg0 hv0 0
    have v1 := World.var?_cell hg0 hv0 1
    have v2 := World.var?_cell hg0 hv0 2
    have u0 : W.cell? ⟨0, 0, none⟩ = some (.int .i64 1) := by simpa using v0
    refine ⟨u0, by simpa using v1, by simpa using v2, ?_⟩
    obtain ⟨o, ho, -⟩ := cells_of_cell u0
    exact (Array.getElem?_eq_some_iff.1 ho).1
end Go.Proofs.YtpalgphkpmhpjaaDoor
