/-
  What the arguments of the laws read as.
-/
import Derived.Test.YtganhbebklmdnaaRows
import Derived.Test.YtganhbebklmdnaaC
import Derived.ProofKit
import Derived.SliceStrings
namespace Go.Proofs.Ytganhbebklmdnaa
open Go.ChangeShapes Go.WideShapes Go.ChangeAt Go.RowKit
theorem own : ownKnob Try.prog.godebug = none := by kernel_rfl
theorem laidOut : laidOutB Try.prog = true := by kernel_rfl
theorem cells9 : Try.prog.cellsOf 9 = 1 := by kernel_rfl
/-- A slice of strings that came in. -/
theorem keys_of {H : Type} {enc : TypeId × Value → H} {W : World} {base : Nat} {held : Bool} {v : Value} {d : DataW H} {ps : List MemPlace} (hv : ∃ a len cap, v = .slice a len cap)
    (h : DataW.Trod enc Try.prog W base (fun _ => true) held 22 v d ps) : ∃ ss, Keys W v ss ∧ (∀ s ∈ ss, s.size ≤ maxLen) ∧ ss.length ≤ maxLen := by
  obtain ⟨a0, len, cap, rfl⟩ := hv
  obtain ⟨fuel, hf⟩ := h
  rcases open_strings Try.underlying22 Try.underlying9 cells9 hf with ⟨hcs, hx⟩ | ⟨a, len', cap', ss, hcs, _, hl, hm, hz, hx, hcell, hws⟩
  · simp only [Value.cells, List.cons.injEq, Value.slice.injEq, and_true] at hcs
    obtain ⟨rfl, rfl, rfl⟩ := hcs
    exact ⟨[], Lies.nil _, fun s h => (by cases h), by simp⟩
  · simp only [Value.cells, List.cons.injEq, Value.slice.injEq, and_true] at hcs
    obtain ⟨rfl, rfl, rfl⟩ := hcs
    simp only [if_true] at hz
    have hlen : (ss.take len).length = len := by rw [List.length_take]; omega
    refine ⟨ss.take len, ⟨some a, cap, by rw [List.length_map, hlen], ?_⟩, fun s hs => hws s (List.mem_of_mem_take hs), by omega⟩
    by_cases h0 : len = 0
    · subst h0; exact .inl rfl
    · have c0 := hcell 0 (by omega)
      obtain ⟨b, off, spot⟩ := a
      have hsp : spot = none := by
        cases spot with
        | none => rfl
        | some x => simp [World.cell?, Addr.add] at c0; split at c0 <;> cases c0
      subst hsp
      refine .inr ⟨b, off, rfl, ?_, fun j u hj => ?_⟩
      · obtain ⟨o, ho, -⟩ := cells_of_cell (show W.cell? ((⟨b, off, none⟩ : Addr).add 0) = _ from c0)
        have := (Array.getElem?_eq_some_iff.1 ho).1
        simpa [Addr.add] using this
      · rw [List.getElem?_map] at hj
        have hjl : j < len := by
          rcases Nat.lt_or_ge j len with h | h
          · exact h
          · rw [List.getElem?_eq_none (by omega)] at hj; cases hj
        rw [List.getElem?_take_of_lt hjl] at hj
        have := hcell j (by omega)
        have e : (⟨b, off, none⟩ : Addr).add j = ⟨b, off + j, none⟩ := by
          unfold Addr.add; split <;> simp_all
        rw [e] at this
        rw [this]
        rw [List.getElem?_eq_getElem (by omega)] at hj
        have hg : ss.getD j ByteArray.empty = ss[j] := by simp [List.getD, List.getElem?_eq_getElem (show j < ss.length by omega)]
        rw [hg]
        simpa using hj
end Go.Proofs.Ytganhbebklmdnaa
