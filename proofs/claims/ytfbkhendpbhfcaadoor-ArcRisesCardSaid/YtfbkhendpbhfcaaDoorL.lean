/-
  What the tied table gives the walks, the heap that the program's own start leaves, and what the arguments of the laws read as.
-/
import Derived.Test.YtfbkhendpbhfcaaDoorRows
import Derived.Test.YtfbkhendpbhfcaaDoorTie
import Derived.Test.YtfbkhendpbhfcaaDoorCards
import Derived.Test.YtfbkhendpbhfcaaDoorD
import Derived.ProofKit
import Derived.LaidMore
import Derived.OpenShut
import Derived.Stop.Joined
import Derived.SevenTiedAt
import Derived.ChangeSlices
namespace Go.Proofs.YtfbkhendpbhfcaaDoor
open Go.ChangeShapes Go.WideShapes Go.ChangeAt Go.RowKit

theorem own : ownKnob Tryd.prog.godebug = none := by kernel_rfl
theorem laidOut : laidOutB Tryd.prog = true := by kernel_rfl
theorem gStarts : Tryd.prog.globalNamed "garland/arc.starts" = some 0 := by kernel_rfl
theorem tStarts : (Tryd.prog.globals[0]?).map (·.type) = some 34 := by kernel_rfl
theorem c3 : Tryd.prog.cellsOf 3 = 1 := by kernel_rfl
theorem c34 : Tryd.prog.cellsOf 34 = 16 := by kernel_rfl

/-- The one listed variable. -/
def laid1 : List (String × DataW Unit) := [("garland/arc.starts", Rows.laid_garland_arc_starts)]

theorem door_met (os : Os) (args : Array Value) : laidMetH Tryd.prog laid1 ((World.doorLaid Tryd.prog 14 os).forCall (fun _ _ => 0) ⟨#[], args, []⟩).memory :=
  laidMetH_of_parts3 (fuel := 8) (laidMet_of_run' 8 (by kernel_rfl) (by kernel_rfl)) (by kernel_rfl) (by kernel_rfl)

set_option maxRecDepth 10000 in
theorem held_of_laid {W : World} (h : laidMetH Tryd.prog laid1 W) : Held W := by
  rw [MakeChecks.laidMetH_plain _ _ _ (by kernel_rfl)] at h
  obtain ⟨ps, ⟨g0, t0, cs0, f0, p0, q0, hg0, ht0, hv0, hd0, _, _⟩, _, _⟩ := h
  obtain rfl := Option.some.inj (gStarts.symm.trans hg0)
  obtain rfl := Option.some.inj (tStarts.symm.trans ht0)
  obtain ⟨xs, m1, rfl, hx1, hlen, hn3, hel⟩ := DataW.trod_array Tryd.underlying34 hd0
  simp only [Prod.mk.injEq] at hx1
  have hx2 := hx1.1
  unfold Rows.laid_garland_arc_starts at hx2
  obtain ⟨l⟩ := cs0
  rw [c34] at hlen
  obtain ⟨a0, a1, a2, a3, a4, a5, a6, a7, a8, a9, a10, a11, a12, a13, a14, a15, rfl⟩ : ∃ a0 a1 a2 a3 a4 a5 a6 a7 a8 a9 a10 a11 a12 a13 a14 a15, l = [a0, a1, a2, a3, a4, a5, a6, a7, a8, a9, a10, a11, a12, a13, a14, a15] := by
    match l, hlen with
    | [a0, a1, a2, a3, a4, a5, a6, a7, a8, a9, a10, a11, a12, a13, a14, a15], _ => exact ⟨_, _, _, _, _, _, _, _, _, _, _, _, _, _, _, _, rfl⟩
  have e0 := hel 0 (by decide)
  have e1 := hel 1 (by decide)
  have e2 := hel 2 (by decide)
  have e3 := hel 3 (by decide)
  have e4 := hel 4 (by decide)
  have e5 := hel 5 (by decide)
  have e6 := hel 6 (by decide)
  have e7 := hel 7 (by decide)
  have e8 := hel 8 (by decide)
  have e9 := hel 9 (by decide)
  have e10 := hel 10 (by decide)
  have e11 := hel 11 (by decide)
  have e12 := hel 12 (by decide)
  have e13 := hel 13 (by decide)
  have e14 := hel 14 (by decide)
  have e15 := hel 15 (by decide)
  match xs, hn3, hx2, e0, e1, e2, e3, e4, e5, e6, e7, e8, e9, e10, e11, e12, e13, e14, e15 with
  | [x0, x1, x2, x3, x4, x5, x6, x7, x8, x9, x10, x11, x12, x13, x14, x15], _, hx2, e0, e1, e2, e3, e4, e5, e6, e7, e8, e9, e10, e11, e12, e13, e14, e15 =>
    rw [c3] at e0 e1 e2 e3 e4 e5 e6 e7 e8 e9 e10 e11 e12 e13 e14 e15
    simp only [List.map_cons, List.map_nil, DataW.agg.injEq, List.cons.injEq] at hx2
    obtain ⟨y0, y1, y2, y3, y4, y5, y6, y7, y8, y9, y10, y11, y12, y13, y14, y15, -⟩ := hx2
    obtain ⟨k0, i0, j0, _⟩ := DataW.trod_int Tryd.underlying3 (show DataW.trod _ Tryd.prog W 0 _ false m1 3 [a0] = some x0 from e0)
    rw [j0] at y0
    obtain rfl : k0 = 1 := by simpa using y0.symm
    simp only [List.cons.injEq, and_true] at i0
    subst i0
    obtain ⟨k1, i1, j1, _⟩ := DataW.trod_int Tryd.underlying3 (show DataW.trod _ Tryd.prog W 0 _ false m1 3 [a1] = some x1 from e1)
    rw [j1] at y1
    obtain rfl : k1 = 2 := by simpa using y1.symm
    simp only [List.cons.injEq, and_true] at i1
    subst i1
    obtain ⟨k2, i2, j2, _⟩ := DataW.trod_int Tryd.underlying3 (show DataW.trod _ Tryd.prog W 0 _ false m1 3 [a2] = some x2 from e2)
    rw [j2] at y2
    obtain rfl : k2 = 4 := by simpa using y2.symm
    simp only [List.cons.injEq, and_true] at i2
    subst i2
    obtain ⟨k3, i3, j3, _⟩ := DataW.trod_int Tryd.underlying3 (show DataW.trod _ Tryd.prog W 0 _ false m1 3 [a3] = some x3 from e3)
    rw [j3] at y3
    obtain rfl : k3 = 8 := by simpa using y3.symm
    simp only [List.cons.injEq, and_true] at i3
    subst i3
    obtain ⟨k4, i4, j4, _⟩ := DataW.trod_int Tryd.underlying3 (show DataW.trod _ Tryd.prog W 0 _ false m1 3 [a4] = some x4 from e4)
    rw [j4] at y4
    obtain rfl : k4 = 16 := by simpa using y4.symm
    simp only [List.cons.injEq, and_true] at i4
    subst i4
    obtain ⟨k5, i5, j5, _⟩ := DataW.trod_int Tryd.underlying3 (show DataW.trod _ Tryd.prog W 0 _ false m1 3 [a5] = some x5 from e5)
    rw [j5] at y5
    obtain rfl : k5 = 32 := by simpa using y5.symm
    simp only [List.cons.injEq, and_true] at i5
    subst i5
    obtain ⟨k6, i6, j6, _⟩ := DataW.trod_int Tryd.underlying3 (show DataW.trod _ Tryd.prog W 0 _ false m1 3 [a6] = some x6 from e6)
    rw [j6] at y6
    obtain rfl : k6 = 64 := by simpa using y6.symm
    simp only [List.cons.injEq, and_true] at i6
    subst i6
    obtain ⟨k7, i7, j7, _⟩ := DataW.trod_int Tryd.underlying3 (show DataW.trod _ Tryd.prog W 0 _ false m1 3 [a7] = some x7 from e7)
    rw [j7] at y7
    obtain rfl : k7 = 128 := by simpa using y7.symm
    simp only [List.cons.injEq, and_true] at i7
    subst i7
    obtain ⟨k8, i8, j8, _⟩ := DataW.trod_int Tryd.underlying3 (show DataW.trod _ Tryd.prog W 0 _ false m1 3 [a8] = some x8 from e8)
    rw [j8] at y8
    obtain rfl : k8 = 256 := by simpa using y8.symm
    simp only [List.cons.injEq, and_true] at i8
    subst i8
    obtain ⟨k9, i9, j9, _⟩ := DataW.trod_int Tryd.underlying3 (show DataW.trod _ Tryd.prog W 0 _ false m1 3 [a9] = some x9 from e9)
    rw [j9] at y9
    obtain rfl : k9 = 512 := by simpa using y9.symm
    simp only [List.cons.injEq, and_true] at i9
    subst i9
    obtain ⟨k10, i10, j10, _⟩ := DataW.trod_int Tryd.underlying3 (show DataW.trod _ Tryd.prog W 0 _ false m1 3 [a10] = some x10 from e10)
    rw [j10] at y10
    obtain rfl : k10 = 1024 := by simpa using y10.symm
    simp only [List.cons.injEq, and_true] at i10
    subst i10
    obtain ⟨k11, i11, j11, _⟩ := DataW.trod_int Tryd.underlying3 (show DataW.trod _ Tryd.prog W 0 _ false m1 3 [a11] = some x11 from e11)
    rw [j11] at y11
    obtain rfl : k11 = 2048 := by simpa using y11.symm
    simp only [List.cons.injEq, and_true] at i11
    subst i11
    obtain ⟨k12, i12, j12, _⟩ := DataW.trod_int Tryd.underlying3 (show DataW.trod _ Tryd.prog W 0 _ false m1 3 [a12] = some x12 from e12)
    rw [j12] at y12
    obtain rfl : k12 = 4096 := by simpa using y12.symm
    simp only [List.cons.injEq, and_true] at i12
    subst i12
    obtain ⟨k13, i13, j13, _⟩ := DataW.trod_int Tryd.underlying3 (show DataW.trod _ Tryd.prog W 0 _ false m1 3 [a13] = some x13 from e13)
    rw [j13] at y13
    obtain rfl : k13 = 8192 := by simpa using y13.symm
    simp only [List.cons.injEq, and_true] at i13
    subst i13
    obtain ⟨k14, i14, j14, _⟩ := DataW.trod_int Tryd.underlying3 (show DataW.trod _ Tryd.prog W 0 _ false m1 3 [a14] = some x14 from e14)
    rw [j14] at y14
    obtain rfl : k14 = 16384 := by simpa using y14.symm
    simp only [List.cons.injEq, and_true] at i14
    subst i14
    obtain ⟨k15, i15, j15, _⟩ := DataW.trod_int Tryd.underlying3 (show DataW.trod _ Tryd.prog W 0 _ false m1 3 [a15] = some x15 from e15)
    rw [j15] at y15
    obtain rfl : k15 = 32768 := by simpa using y15.symm
    simp only [List.cons.injEq, and_true] at i15
    subst i15
    have v0 := World.var?_cell hg0 hv0 0
    have v1 := World.var?_cell hg0 hv0 1
    have v2 := World.var?_cell hg0 hv0 2
    have v3 := World.var?_cell hg0 hv0 3
    have v4 := World.var?_cell hg0 hv0 4
    have v5 := World.var?_cell hg0 hv0 5
    have v6 := World.var?_cell hg0 hv0 6
    have v7 := World.var?_cell hg0 hv0 7
    have v8 := World.var?_cell hg0 hv0 8
    have v9 := World.var?_cell hg0 hv0 9
    have v10 := World.var?_cell hg0 hv0 10
    have v11 := World.var?_cell hg0 hv0 11
    have v12 := World.var?_cell hg0 hv0 12
    have v13 := World.var?_cell hg0 hv0 13
    have v14 := World.var?_cell hg0 hv0 14
    have v15 := World.var?_cell hg0 hv0 15
    have u0 : W.cell? ⟨0, 0, none⟩ = some (.int .i64 1) := by simpa using v0
    refine ⟨fun j hj => ?_, ?_⟩
    · match j, hj with
      | 0, _ => simpa [pw] using v0
      | 1, _ => simpa [pw] using v1
      | 2, _ => simpa [pw] using v2
      | 3, _ => simpa [pw] using v3
      | 4, _ => simpa [pw] using v4
      | 5, _ => simpa [pw] using v5
      | 6, _ => simpa [pw] using v6
      | 7, _ => simpa [pw] using v7
      | 8, _ => simpa [pw] using v8
      | 9, _ => simpa [pw] using v9
      | 10, _ => simpa [pw] using v10
      | 11, _ => simpa [pw] using v11
      | 12, _ => simpa [pw] using v12
      | 13, _ => simpa [pw] using v13
      | 14, _ => simpa [pw] using v14
      | 15, _ => simpa [pw] using v15
      | n + 16, hj => omega
    · obtain ⟨o, ho, -⟩ := cells_of_cell u0
      exact (Array.getElem?_eq_some_iff.1 ho).1

/-- A slice of numbers that came in. -/
theorem ints_of {H : Type} {enc : TypeId × Value → H} {W : World} {base : Nat} {held : Bool} {v : Value} {d : DataW H} {ps : List MemPlace} (hv : ∃ a len cap, v = .slice a len cap)
    (h : DataW.Trod enc Tryd.prog W base (fun _ => true) held 22 v d ps) : ∃ zs, Ints W v zs ∧ (∀ z ∈ zs, z = z) ∧ zs.length ≤ maxLen := by
  obtain ⟨a0, len, cap, rfl⟩ := hv
  obtain ⟨fuel, hf⟩ := h
  rcases open_ints Tryd.underlying22 Tryd.underlying3 c3 hf with ⟨hcs, hx⟩ | ⟨a, len', cap', zs, hcs, _, hl, hm, hz, hx, hcell, hws⟩
  · simp only [Value.cells, List.cons.injEq, Value.slice.injEq, and_true] at hcs
    obtain ⟨rfl, rfl, rfl⟩ := hcs
    exact ⟨[], Lies.nil _, fun s h => (by cases h), by simp⟩
  · simp only [Value.cells, List.cons.injEq, Value.slice.injEq, and_true] at hcs
    obtain ⟨rfl, rfl, rfl⟩ := hcs
    simp only [if_true] at hz
    have hlen : (zs.take len).length = len := by rw [List.length_take]; omega
    refine ⟨zs.take len, ⟨some a, cap, by rw [List.length_map, hlen], ?_⟩, fun _ _ => rfl, by omega⟩
    by_cases h0 : len = 0
    · subst h0; exact .inl rfl
    · have c0 := hcell 0 (by omega)
      obtain ⟨b, off, spot⟩ := a
      have hsp : spot = none := by
        cases spot with
        | none => rfl
        | some x => simp [World.cell?, Addr.add] at c0; split at c0 <;> cases c0
      subst hsp
      refine .inr ⟨b, off, rfl, ?_, fun j u hj => ?_⟩
      · obtain ⟨o, ho, -⟩ := cells_of_cell (show W.cell? ((⟨b, off, none⟩ : Addr).add 0) = _ from c0)
        have := (Array.getElem?_eq_some_iff.1 ho).1
        simpa [Addr.add] using this
      · rw [List.getElem?_map] at hj
        have hjl : j < len := by
          rcases Nat.lt_or_ge j len with h | h
          · exact h
          · rw [List.getElem?_eq_none (by omega)] at hj; cases hj
        rw [List.getElem?_take_of_lt hjl] at hj
        have := hcell j (by omega)
        have e : (⟨b, off, none⟩ : Addr).add j = ⟨b, off + j, none⟩ := by
          unfold Addr.add; split <;> simp_all
        rw [e] at this
        rw [this]
        rw [List.getElem?_eq_getElem (by omega)] at hj
        have hg : zs.getD j 0 = zs[j] := by simp [List.getD, List.getElem?_eq_getElem (show j < zs.length by omega)]
        rw [hg]
        simpa using hj
end Go.Proofs.YtfbkhendpbhfcaaDoor
