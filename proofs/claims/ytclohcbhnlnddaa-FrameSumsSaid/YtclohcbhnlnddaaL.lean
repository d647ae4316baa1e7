/-
  What the arguments of the laws read as.
-/
import Derived.Test.YtclohcbhnlnddaaRows
import Derived.Test.YtclohcbhnlnddaaM
import Derived.ProofKit
import Derived.SliceStrings
import Derived.OpenShut
namespace Go.Proofs.Ytclohcbhnlnddaa
open Go.ChangeShapes Go.WideShapes Go.ChangeAt Go.RowKit Go.WideElems
theorem own : ownKnob Try.prog.godebug = none := by kernel_rfl
theorem laidOut : laidOutB Try.prog = true := by kernel_rfl
theorem c5 : Try.prog.cellsOf 5 = 1 := by kernel_rfl
theorem encb_of (z : Int) (h0 : 0 ≤ z) (h1 : z ≤ 255) : encb (BitVec.ofNat 8 z.toNat) = .int .u8 z := by
  unfold encb
  congr 1
  rw [BitVec.toNat_ofNat]; omega
/-- A slice of bytes that came in. -/
theorem bytes_of {H : Type} {enc : TypeId × Value → H} {W : World} {base : Nat} {held : Bool} {v : Value} {d : DataW H} {ps : List MemPlace} (hv : ∃ a len cap, v = .slice a len cap)
    (h : DataW.Trod enc Try.prog W base (fun _ => true) held 23 v d ps) : ∃ bs, Bytes W v bs ∧ (∀ b ∈ bs, b = b) ∧ bs.length ≤ maxLen := by
  obtain ⟨a0, len, cap, rfl⟩ := hv
  obtain ⟨fuel, hf⟩ := h
  rcases open_ints Try.underlying23 Try.underlying5 c5 hf with ⟨hcs, hx⟩ | ⟨a, len', cap', zs, hcs, _, hl, hm, hz, hx, hcell, hws⟩
  · simp only [Value.cells, List.cons.injEq, Value.slice.injEq, and_true] at hcs
    obtain ⟨rfl, rfl, rfl⟩ := hcs
    exact ⟨[], (OwnB.nil W).bytes, fun s h => (by cases h), by simp⟩
  · simp only [Value.cells, List.cons.injEq, Value.slice.injEq, and_true] at hcs
    obtain ⟨rfl, rfl, rfl⟩ := hcs
    simp only [if_true] at hz
    have hlen : ((zs.take len).map fun z => BitVec.ofNat 8 z.toNat).length = len := by rw [List.length_map, List.length_take]; omega
    refine ⟨(zs.take len).map fun z => BitVec.ofNat 8 z.toNat, ⟨some a, cap, by rw [hlen], by omega, (fun e => by cases e), ?_⟩, fun _ _ => rfl, by omega⟩
    by_cases h0 : len = 0
    · subst h0; exact .inl rfl
    · have c0 := hcell 0 (by omega)
      obtain ⟨b, off, spot⟩ := a
      have hsp : spot = none := by
        cases spot with
        | none => rfl
        | some x => simp [World.cell?, Addr.add] at c0; split at c0 <;> cases c0
      subst hsp
      refine .inr ⟨b, off, rfl, ?_, fun j u hj => ?_⟩
      · obtain ⟨o, ho, -⟩ := cells_of_cell (show W.cell? ((⟨b, off, none⟩ : Addr).add 0) = _ from c0)
        have := (Array.getElem?_eq_some_iff.1 ho).1
        simpa [Addr.add] using this
      · rw [List.getElem?_map] at hj
        have hjl : j < len := by
          rcases Nat.lt_or_ge j len with h | h
          · exact h
          · rw [List.getElem?_eq_none (by rw [List.length_take]; omega)] at hj; cases hj
        rw [List.getElem?_take_of_lt hjl] at hj
        have := hcell j (by omega)
        have e : (⟨b, off, none⟩ : Addr).add j = ⟨b, off + j, none⟩ := by
          unfold Addr.add; split <;> simp_all
        rw [e] at this
        rw [this]
        rw [List.getElem?_eq_getElem (by omega)] at hj
        have hg : zs.getD j 0 = zs[j] := by simp [List.getD, List.getElem?_eq_getElem (show j < zs.length by omega)]
        rw [hg]
        have hb := bounds_u8 (hws zs[j] (List.getElem_mem (by omega)))
        simp only [Option.map_some, Option.some.injEq] at hj
        rw [← hj, encb_of _ hb.1 hb.2]
end Go.Proofs.Ytclohcbhnlnddaa
