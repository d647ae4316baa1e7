/-
  What rises: what package arc and its reference answer.
-/
import Derived.Test.YtfbkhendpbhfcaaDoorB
import Derived.Test.YtfbkhendpbhfcaaDoorLoops
import Derived.RangeFuncCalls
import Derived.RangeFuncBox
import Derived.Shelf.Abstract
import Derived.Shelf.RegionOpen
import Derived.OwnWalkIn
import Derived.TacticsInMore
import Derived.LoopIn
namespace Go.Proofs.YtfbkhendpbhfcaaDoor
open Go.RowKit Go.Shelf
attribute [local go_sem] Oper.semAt_some

theorem risesF_drop {a was : Int} {zs : List Int} {k : Nat} {z : Int} (hz : zs[k]? = some z) : risesF a was (zs.drop k) = (decide (was < far a z) && risesF a (far a z) (zs.drop (k + 1))) := by
  have hlt : k < zs.length := by
    rcases Nat.lt_or_ge k zs.length with h | h
    · exact h
    · rw [List.getElem?_eq_none h] at hz; cases hz
  rw [List.getElem?_eq_getElem hlt] at hz
  rw [List.drop_eq_getElem_cons hlt, Option.some.inj hz]
  rfl

set_option maxHeartbeats 1000000 in
theorem refrises_any (v : Value) (zs : List Int) (hn : zs.length ≤ 1000) (a : Int) (w : World) (h : Ints w v zs) :
    Calls Tryd.prog 23 #[.int .i64 a, v] w fun e w' => e = .returned (.bool (risesF a 0 zs)) ∧ Below w.heap.size w w' := by
  obtain ⟨ad, cap, rfl⟩ := h.shape
  have HI := Lib.hid h
  clear h
  go_enter Tryd.func23, Tryd.ntmps23
  go_wp2
  go_loopw [5, 6] (fun s i wr => ∃ (k : Nat) (was : Int), k ≤ zs.length ∧ i = .int .i64 k ∧ s = .int .i64 was ∧ Below w.heap.size w wr ∧ risesF a was (zs.drop k) = risesF a 0 zs) (fun _ i _ => zs.length - (intOf i).toNat)
  case atStart => exact ⟨0, 0, Nat.zero_le _, rfl, rfl, Below.refl _ _, rfl⟩
  case round =>
    obtain ⟨k, was, hk, rfl, rfl, hb, hr⟩ := hrel
    have HR := Lib.hid hr
    have HB := Lib.hid hb
    clear hb hr
    by_cases hlt : k < zs.length
    · obtain ⟨z, hz⟩ : ∃ z, zs[k]? = some z := ⟨_, List.getElem?_eq_getElem hlt⟩
      obtain ⟨b, off, rfl, hcell⟩ := (HI.out.below HB.out).at hz
      have HS := Lib.hid (risesF_drop (a := a) (was := was) hz)
      clear hz
      by_cases c : far a z ≤ was
      · go_wp2_with (go_at_call 15; refine (reffar_any _ _ _).mono ?_; rintro e w' ⟨rfl, rfl⟩)
        go_ret
        refine ⟨?_, HB.out⟩
        have e := HR.out
        rw [HS.out, decide_eq_false (by omega), Bool.false_and] at e
        rw [← e]
        rfl
      · go_wp2_with (go_at_call 15; refine (reffar_any _ _ _).mono ?_; rintro e w' ⟨rfl, rfl⟩)
        go_roundw
        case rel =>
          have e := HR.out
          rw [HS.out, decide_eq_true (by omega), Bool.true_and] at e
          exact ⟨k + 1, _, by omega, by go_num, rfl, HB.out, e⟩
        case measure => simp [intOf]; omega
    · obtain rfl : k = zs.length := by omega
      go_wp2
      go_ret
      refine ⟨?_, HB.out⟩
      have e := HR.out
      rw [List.drop_length] at e
      rw [← e]
      rfl

theorem places_any (v : Value) (n : Nat) (a : Option Addr) (cap : Nat) (hv : v = .slice a n cap) (w : World) : Calls Tryd.prog 24 #[v] w fun e w' =>
    e = .returned (.func (.func 25) #[] #[.pointer (some ⟨w.heap.size, 0, none⟩)]) ∧ w.alloc (.cells #[v] 22) = w' := by
  subst hv
  go_enter Tryd.func24, Tryd.ntmps24
  go_wp2
  go_ret
  exact ⟨rfl, rfl⟩

def encP (zs : List Int) (k : Nat) : Array Value := #[.int .i64 (zs.getD k 0 % 65536)]

set_option maxRecDepth 100000 in
set_option maxHeartbeats 1000000 in
theorem places_iter (B : Nat) (a : Option Addr) (zs : List Int) (hn : zs.length ≤ 1000) (cap : Nat) (w : World) (hB : Row w B #[.slice a zs.length cap] 22)
    (b : Nat) (hbl : b < w.heap.size) (hc : ∀ j z, zs[j]? = some z → ∃ off, a = some ⟨b, off, none⟩ ∧ w.cell? ⟨b, off + j, none⟩ = some (.int .i64 z)) :
    Iter Fence.wide 2 Tryd.prog 25 #[.pointer (some ⟨B, 0, none⟩)] (encP zs) zs.length (fun _ => False) (fun x => x = b) w := by
  intro l J Jx W hW _ _ hY h0
  have hrow := hB.turns hW (fun h => h)
  have hcB := hrow.cell (j := 0) (v := .slice a zs.length cap) rfl
  have hsame : W.heap[b]? = w.heap[b]? := hW.block b hbl (fun h => h)
  have HC := Lib.hid hc
  clear hW hB hc hrow
  refine callsIn_of_wp Tryd.func25 rfl trivial ?_ rfl
  simp only [Tryd.ntmps25, List.size_toArray, List.length_cons, List.length_nil, Nat.reduceAdd, Nat.reduceSub, Array.replicate_succ, Array.replicate_zero, List.push_toArray, List.append_toArray, List.nil_append, List.cons_append]
  gi_wp2
  clear hcB
  gi_loopw [7] (fun i wr => ∃ k : Nat, k ≤ zs.length ∧ i = .int .i64 k ∧ J k wr ∧ wr.heap[b]? = w.heap[b]?) (fun i _ => zs.length - (intOf i).toNat)
  case atStart => exact ⟨0, Nat.zero_le _, rfl, h0, hsame⟩
  case round =>
    obtain ⟨k, hk, rfl, hJ, hr⟩ := hrel
    clear hsame
    by_cases hlt : k < zs.length
    · obtain ⟨z, hz⟩ : ∃ z, zs[k]? = some z := ⟨_, List.getElem?_eq_getElem hlt⟩
      obtain ⟨off, rfl, hc0⟩ := HC.out k z hz
      have hc1 : wr.cell? ⟨b, off + k, none⟩ = some (.int .i64 z) := (World.cell?_of_block hr).trans hc0
      have hy0 := hY k wr hlt hJ
      have hgd : zs.getD k 0 = z := by rw [List.getD_eq_getElem?_getD, hz]; rfl
      unfold encP at hy0
      rw [hgd] at hy0
      obtain ⟨fn, tmps, assign, body, hy, hR⟩ := hy0
      clear hY hz hgd hc0
      gi_wp2_with ((try refine ⟨trivial, ?_⟩); gi_at_call 12; refine (callsIn_wide.2 (place_any _ _)).mono ?_; rintro e w' ⟨rfl, rfl⟩)
      refine hR.mono ?_
      rintro e W3 (⟨rfl, hJ3, hS3⟩ | ⟨rfl, hJx3⟩)
      · have hr3 := (hS3 b rfl).trans hr
        gi_wp2
        go_roundw
        case rel => exact ⟨k + 1, by omega, by go_num, hJ3, hr3⟩
        case measure => simp [intOf]; omega
      · gi_wp2
        refine bodyPost_ret (results_none rfl _ _ _) rfl ?_
        exact ⟨⟨_, rfl⟩, .inr ⟨k, hlt, hJx3⟩⟩
    · obtain rfl : k = zs.length := by omega
      gi_wp2
      go_end0
      exact ⟨⟨_, rfl⟩, .inl hJ⟩

theorem Ints.data {w : World} {ad : Option Addr} {n cap : Nat} {zs : List Int} (h : Ints w (.slice ad n cap) zs) :
    ∃ b, (b < w.heap.size ∨ b = w.heap.size + 3) ∧ ∀ w', Below w.heap.size w w' → ∀ j z, zs[j]? = some z → ∃ off, ad = some ⟨b, off, none⟩ ∧ w'.cell? ⟨b, off + j, none⟩ = some (.int .i64 z) := by
  rcases h.parts with ⟨a, c, e, rfl⟩ | ⟨b, off, c, e, hl, hc⟩
  · exact ⟨_, .inr rfl, fun _ _ j z hz => by cases hz⟩
  · cases e
    exact ⟨b, .inl hl, fun w' hb j z hz => ⟨off, rfl, (hb.cell (p := ⟨b, off + j, none⟩) hl).trans (hc j z hz)⟩⟩

set_option maxRecDepth 100000 in
set_option maxHeartbeats 1000000 in
theorem rises_in (v : Value) (zs : List Int) (hn : zs.length ≤ 1000) (a : Int) (w : World) (h : Ints w v zs) : CallsIn Fence.wide 3 Tryd.prog 22 #[.int .i64 a, v] w fun e w' =>
    e = .returned (.bool (risesF a 0 zs)) ∧ Below w.heap.size w w' := by
  obtain ⟨ad, cap, rfl⟩ := h.shape
  obtain ⟨b, hbS, hcells⟩ := h.data
  have HC := Lib.hid hcells
  clear h hcells
  refine callsIn_of_wp_marks Tryd.func22 rfl trivial ?_ rfl
  simp only [Tryd.ntmps22, List.size_toArray, List.length_cons, List.length_nil, Nat.reduceAdd, Nat.reduceSub, Array.replicate_succ, Array.replicate_zero, List.push_toArray, List.append_toArray, List.nil_append, List.cons_append]
  refine wpIn_wide.2 ?_
  go_wp2_with (go_at_call 24; refine (places_any _ zs.length ad cap rfl _).mono ?_; rintro e w' ⟨rfl, rfl⟩)
  have r1 : Row ((((w.alloc (.cells #[.int .i64 a] 3)).alloc (.cells #[.bool false] 4)).alloc (.cells #[.int .i64 0] 3)).alloc (.cells #[.slice ad zs.length cap] 22)) w.heap.size #[.int .i64 a] 3 := (((Row.new w _ 3).alloc _).alloc _).alloc _
  have r2 : Row ((((w.alloc (.cells #[.int .i64 a] 3)).alloc (.cells #[.bool false] 4)).alloc (.cells #[.int .i64 0] 3)).alloc (.cells #[.slice ad zs.length cap] 22)) (w.heap.size + 1) #[.bool false] 4 := by
    have := ((Row.new (w.alloc (.cells #[.int .i64 a] 3)) #[.bool false] 4).alloc (.cells #[.int .i64 0] 3)).alloc (.cells #[.slice ad zs.length cap] 22)
    simpa using this
  have r3 : Row ((((w.alloc (.cells #[.int .i64 a] 3)).alloc (.cells #[.bool false] 4)).alloc (.cells #[.int .i64 0] 3)).alloc (.cells #[.slice ad zs.length cap] 22)) (w.heap.size + 2) #[.int .i64 0] 3 := by
    have := (Row.new ((w.alloc (.cells #[.int .i64 a] 3)).alloc (.cells #[.bool false] 4)) #[.int .i64 0] 3).alloc (.cells #[.slice ad zs.length cap] 22)
    simpa using this
  have r4 : Row ((((w.alloc (.cells #[.int .i64 a] 3)).alloc (.cells #[.bool false] 4)).alloc (.cells #[.int .i64 0] 3)).alloc (.cells #[.slice ad zs.length cap] 22)) (w.heap.size + 3) #[.slice ad zs.length cap] 22 := by
    have := Row.new (((w.alloc (.cells #[.int .i64 a] 3)).alloc (.cells #[.bool false] 4)).alloc (.cells #[.int .i64 0] 3)) #[.slice ad zs.length cap] 22
    simpa using this
  have hbel : Below w.heap.size w ((((w.alloc (.cells #[.int .i64 a] 3)).alloc (.cells #[.bool false] 4)).alloc (.cells #[.int .i64 0] 3)).alloc (.cells #[.slice ad zs.length cap] 22)) := ((((Below.refl _ w).alloc (Nat.le_refl _) _).alloc (by simp) _).alloc (by simp; omega) _).alloc (by simp; omega) _
  have hsize : ((((w.alloc (.cells #[.int .i64 a] 3)).alloc (.cells #[.bool false] 4)).alloc (.cells #[.int .i64 0] 3)).alloc (.cells #[.slice ad zs.length cap] 22)).heap.size = w.heap.size + 4 := by simp
  have hdata := HC.out _ hbel
  simp only [Nat.add_assoc, Nat.reduceAdd]
  generalize (((w.alloc (.cells #[.int .i64 a] 3)).alloc (.cells #[.bool false] 4)).alloc (.cells #[.int .i64 0] 3)).alloc (.cells #[.slice ad zs.length cap] 22) = w3 at *
  obtain ⟨m, hm⟩ : ∃ m, w.heap.size = m := ⟨_, rfl⟩
  rw [hm] at r1 r2 r3 r4 hsize hbS ⊢
  have HM := Lib.hid hm
  have HB := Lib.hid hbel
  clear hm hbel
  refine (wpIn_wide (n := 3)).1 (wpIn_range rfl (by omega) (gf := 25) (lb := #[.pointer (some ⟨m + 3, 0, none⟩)]) rfl trivial (enters_of Tryd.func25 (by kernel_rfl) rfl)
    (places_iter (m + 3) ad zs hn cap w3 r4 b (by omega) hdata) (fun _ => rfl)
    (fun k => k = m ∨ k = m + 1 ∨ k = m + 2) (fun k hk => by omega) (fun x hx => by subst hx; omega) (fun _ h => h.elim)
    (fun k W => Row W m #[.int .i64 a] 3 ∧ Row W (m + 1) #[.bool false] 4 ∧ ∃ was : Int, Row W (m + 2) #[.int .i64 was] 3 ∧ risesF a was (zs.drop k) = risesF a 0 zs)
    (fun c _ W => c = .ret ∧ Row W (m + 1) #[.bool false] 4 ∧ risesF a 0 zs = false)
    (fun k A B h hb => ⟨h.1.same (hb _ (.inl rfl)), h.2.1.same (hb _ (.inr (.inl rfl))), h.2.2.imp fun was hw => ⟨hw.1.same (hb _ (.inr (.inr rfl))), hw.2⟩⟩)
    (fun c k A B h hb => ⟨h.1, h.2.1.same (hb _ (.inr (.inl rfl))), h.2.2⟩) ⟨r1, r2, 0, r3, rfl⟩
    (fun k => { tmps := #[.int .i64 a, .slice ad zs.length cap, .pointer (some ⟨m, 0, none⟩), undef, .pointer (some ⟨m + 1, 0, none⟩), .pointer (some ⟨m + 2, 0, none⟩), .int .i64 (zs.getD k 0 % 65536), undef, .slice ad zs.length cap, .func (.func 25) #[] #[.pointer (some ⟨m + 3, 0, none⟩)], .int .i64 (zs.getD k 0 % 65536), undef, undef, undef, undef, undef, undef, undef], defers := [] }) ?assign ?body ?done ?stop)
  case assign =>
    intro l k W K hK
    simp only [encP]
    gi_wp2
    exact hK
  case body =>
    intro l k W hk _ hI
    obtain ⟨i1, i2, was, i3, hr⟩ := hI
    have HR := Lib.hid hr
    clear hr
    have hc1 := i1.cell (j := 0) (v := .int .i64 a) rfl
    have hc3 := i3.cell (j := 0) (v := .int .i64 was) rfl
    have hc2 := i2.cell (j := 0) (v := .bool false) rfl
    have hf2 := i2.free 0
    have hf3 := i3.free 0
    obtain ⟨z, hz⟩ : ∃ z, zs[k]? = some z := ⟨_, List.getElem?_eq_getElem hk⟩
    have hgd : zs.getD k 0 = z := by rw [List.getD_eq_getElem?_getD, hz]; rfl
    have HS := Lib.hid (risesF_drop (a := a) (was := was) hz)
    rw [hgd]
    have HF := Lib.hid (far_place a z)
    clear hz hgd
    by_cases c : far a (z % 65536) ≤ was
    · gi_wp2_with ((try refine ⟨trivial, ?_⟩); gi_at_call 14; refine (CallsIn.inRound l (callsIn_wide.2 (far_any _ _ _))).mono ?_; rintro e w' ⟨rfl, rfl⟩)
      have e := HR.out
      rw [HF.out] at c
      rw [HS.out, decide_eq_false (by omega), Bool.false_and] at e
      exact ⟨(Turns.refl (fun x => x = m ∨ x = m + 1 ∨ x = m + 2) W).setCell (p := ⟨m + 1, 0, none⟩) (.inr (.inr (.inl rfl))) _, rfl, i2.set 0 (.bool false), e.symm⟩
    · gi_wp2_with ((try refine ⟨trivial, ?_⟩); gi_at_call 14; refine (CallsIn.inRound l (callsIn_wide.2 (far_any _ _ _))).mono ?_; rintro e w' ⟨rfl, rfl⟩)
      have e := HR.out
      have c' := c
      rw [HF.out] at c'
      rw [HS.out, decide_eq_true (by omega), Bool.true_and, ← HF.out] at e
      have ht : Turns (fun x => x = m + 2) W (W.setCell ⟨m + 2, 0, none⟩ (.int .i64 (far a (z % 65536)))) := (Turns.refl (fun x => x = m + 2) W).setCell (p := ⟨m + 2, 0, none⟩) (.inr rfl) _
      exact ⟨ht.mono fun x _ h => .inr (.inr h), i1.turns ht (by omega), i2.turns ht (by omega), _, i3.set 0 (.int .i64 (far a (z % 65536))), e⟩
  case done =>
    intro D W hD ht hI hK
    obtain ⟨i1, i2, was, i3, hr⟩ := hI
    rw [List.drop_length] at hr
    have HR := Lib.hid (show true = risesF a 0 zs from hr)
    have hf2 := i2.free 0
    have hc2 := i2.cell (j := 0) (v := .bool false) rfl
    clear hr
    go_wp2
    have hs := ht.size
    have hne : D ≠ m + 1 := by omega
    have hKs : (W.setCell ⟨m + 1, 0, none⟩ (.bool true)).heap[D]? = some (.deferred (some [])) := (Below.heap_setCell _ _ _ _ hne).trans hK
    have ht1 : Turns (fun x => x = D) (W.setCell ⟨m + 1, 0, none⟩ (.bool true)) ((W.setCell ⟨m + 1, 0, none⟩ (.bool true)).putObj D (.deferred none)) := (Turns.refl (fun x => x = D) _).putObj (.inr rfl) _
    have ht0 : Turns (fun x => x = m + 1) W (W.setCell ⟨m + 1, 0, none⟩ (.bool true)) := (Turns.refl (fun x => x = m + 1) W).setCell (p := ⟨m + 1, 0, none⟩) (.inr rfl) _
    have hrow := (i2.set 0 (.bool true)).turns ht1 (by omega)
    have hcr := hrow.cell (j := 0) (v := .bool true) rfl
    refine ⟨by simp, .inl ⟨_, _, rfl, run_takeDeferred hKs, ?_⟩⟩
    refine ⟨.bool true, by simp [results, Tryd.results22, go_sem, hcr], by rw [← HR.out], ?_⟩
    have hbel := HB.out
    rw [HM.out] at hbel ⊢
    exact ((hbel.trans (ht.below (by omega) (fun k hk => by rintro (h | h) <;> omega))).trans (ht0.below (by omega) (fun k hk => by omega))).trans (ht1.below (by have := ht0.size; omega) (fun k hk => by omega))
  case stop =>
    intro D c k W hD _ ht hx hK
    obtain ⟨rfl, i2, hr⟩ := hx
    have HR := Lib.hid hr
    clear hr
    have hs := ht.size
    have hne : D ≠ m + 1 := by omega
    have ht1 : Turns (fun x => x = D) W (W.putObj D (.deferred none)) := (Turns.refl (fun x => x = D) _).putObj (.inr rfl) _
    have hrow := i2.turns ht1 (by omega)
    have hcr := hrow.cell (j := 0) (v := .bool false) rfl
    refine wpIn_wide.2 ?_
    go_wp2
    refine ⟨by simp, .inl ⟨_, _, rfl, run_takeDeferred hK, ?_⟩⟩
    refine ⟨.bool false, by simp [results, Tryd.results22, go_sem, hcr], by rw [HR.out], ?_⟩
    have hbel := HB.out
    rw [HM.out] at hbel ⊢
    exact (hbel.trans (ht.below (by omega) (fun k hk => by rintro (h | h) <;> omega))).trans (ht1.below (by omega) (fun k hk => by omega))

theorem rises_any (v : Value) (zs : List Int) (hn : zs.length ≤ 1000) (a : Int) (w : World) (h : Ints w v zs) : Calls Tryd.prog 22 #[.int .i64 a, v] w fun e w' =>
    e = .returned (.bool (risesF a 0 zs)) ∧ Below w.heap.size w w' := callsIn_wide.1 (rises_in v zs hn a w h)
end Go.Proofs.YtfbkhendpbhfcaaDoor
