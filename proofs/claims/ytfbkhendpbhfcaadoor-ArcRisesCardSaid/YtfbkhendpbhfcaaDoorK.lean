/-
  The law ArcRises: the walk, and what its argument reads as.
-/
import Derived.Test.YtfbkhendpbhfcaaDoorJ
import Derived.Test.YtfbkhendpbhfcaaDoorL
namespace Go.Proofs.YtfbkhendpbhfcaaDoor
open Go.ChangeShapes Go.WideShapes Go.ChangeAt Go.RowKit

theorem ints_cap_of {H : Type} {enc : TypeId × Value → H} {W : World} {base : Nat} {held : Bool} {v : Value} {d : DataW H} {ps : List MemPlace} (hv : ∃ a len cap, v = .slice a len cap)
    (h : DataW.Trod enc Tryd.prog W base (fun _ => true) held 22 v d ps) : ∃ zs, Ints W v zs ∧ (∃ ad c, v = .slice ad zs.length c ∧ zs.length ≤ c) ∧ zs.length ≤ maxLen := by
  obtain ⟨a0, len, cap, rfl⟩ := hv
  obtain ⟨fuel, hf⟩ := h
  rcases open_ints Tryd.underlying22 Tryd.underlying3 c3 hf with ⟨hcs, hx⟩ | ⟨a, len', cap', zs, hcs, _, hl, hm, hz, hx, hcell, hws⟩
  · simp only [Value.cells, List.cons.injEq, Value.slice.injEq, and_true] at hcs
    obtain ⟨rfl, rfl, rfl⟩ := hcs
    exact ⟨[], Lies.nil _, ⟨none, 0, rfl, Nat.le_refl _⟩, by simp⟩
  · simp only [Value.cells, List.cons.injEq, Value.slice.injEq, and_true] at hcs
    obtain ⟨rfl, rfl, rfl⟩ := hcs
    simp only [if_true] at hz
    have hlen : (zs.take len).length = len := by rw [List.length_take]; omega
    refine ⟨zs.take len, ⟨some a, cap, by rw [List.length_map, hlen], ?_⟩, ⟨some a, cap, by rw [hlen], by omega⟩, by omega⟩
    by_cases h0 : len = 0
    · subst h0; exact .inl rfl
    · have c0 := hcell 0 (by omega)
      obtain ⟨b, off, spot⟩ := a
      have hsp : spot = none := by
        cases spot with
        | none => rfl
        | some x => simp [World.cell?, Addr.add] at c0; split at c0 <;> cases c0
      subst hsp
      refine .inr ⟨b, off, rfl, ?_, fun j u hj => ?_⟩
      · obtain ⟨o, ho, -⟩ := cells_of_cell (show W.cell? ((⟨b, off, none⟩ : Addr).add 0) = _ from c0)
        have := (Array.getElem?_eq_some_iff.1 ho).1
        simpa [Addr.add] using this
      · rw [List.getElem?_map] at hj
        have hjl : j < len := by
          rcases Nat.lt_or_ge j len with h | h
          · exact h
          · rw [List.getElem?_eq_none (by omega)] at hj; cases hj
        rw [List.getElem?_take_of_lt hjl] at hj
        have := hcell j (by omega)
        have e : (⟨b, off, none⟩ : Addr).add j = ⟨b, off + j, none⟩ := by
          unfold Addr.add; split <;> simp_all
        rw [e] at this
        rw [this]
        rw [List.getElem?_eq_getElem (by omega)] at hj
        have hg : zs.getD j 0 = zs[j] := by simp [List.getD, List.getElem?_eq_getElem (show j < zs.length by omega)]
        rw [hg]
        simpa using hj

open Go.Shelf in
theorem lrises_walk (a : Int) (v : Value) (zs : List Int) (hm : ∃ ad c, v = .slice ad zs.length c ∧ zs.length ≤ c) (hn : zs.length ≤ maxLen) (w0 w : World) (h : Good w0 w) (hk : Ints w v zs) :
    Calls Tryd.prog 7 #[.int .i64 a, v] w fun e w' => e = .returned (.bool true) ∧ Good w0 w' := by
  obtain ⟨ad, c, rfl, hc⟩ := hm
  by_cases hl : zs.length ≤ 60
  · cases hr : risesF a 0 zs with
    | true => exact lrises_yes a ad c zs hl hc hr w0 w h hk
    | false => exact lrises_no a ad c zs hl hr w0 w h hk
  · clear hk
    unfold maxLen at hn
    go_enter Tryd.func7, Tryd.ntmps7
    go_wp2_with (go_at_call 9; refine (wakes_g w0 _ h).mono ?_; rintro e w' ⟨rfl, hg⟩)
    go_ret
    exact ⟨rfl, hg⟩
end Go.Proofs.YtfbkhendpbhfcaaDoor
