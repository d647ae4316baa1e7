/-
  The plan of waits: the iterator, and the loop over it.
-/
import Derived.Test.YtpalgphkpmhpjaaDoorA
import Derived.Test.YtpalgphkpmhpjaaDoorLoops
import Derived.RangeFuncNested
import Derived.RangeFuncBound
import Derived.RangeFuncCalls
import Derived.RangeFuncLeaves
import Derived.RangeFuncBox
import Derived.Shelf.Abstract
import Derived.Shelf.RegionOpen
import Derived.OwnWalkIn
import Derived.TacticsInMore
import Derived.LoopNIn
import Derived.LoopIn
namespace Go.Proofs.YtpalgphkpmhpjaaDoor
open Go.RowKit Go.Shelf
attribute [local go_sem] Oper.semAt_some

/-- The times of a plan that begins at b. -/
def timeAt (b : Int) : Nat → Int
  | 0 => b
  | 1 => wrap64 (b + 1)
  | 2 => wrap64 (b + 3)
  | _ => wrap64 (b + 7)
def encF (b : Int) (k : Nat) : Array Value := #[.int .i64 (k : Int), .int .i64 (timeAt b k)]

theorem wrap_step1 (b : Int) : wrap64 (wrap64 (b + 1) + 2) = wrap64 (b + 3) := by unfold wrap64; omega
theorem wrap_step2 (b : Int) : wrap64 (wrap64 (b + 3) + 4) = wrap64 (b + 7) := by unfold wrap64; omega

/-- What holds at the head of each round of the iterator's loop. -/
def Rel (b : Int) (J : Nat → World → Prop) (t i : Value) (wr : World) : Prop :=
  (i = .int .i64 0 ∧ t = .int .i64 b ∧ J 0 wr) ∨ (i = .int .i64 1 ∧ t = .int .i64 (wrap64 (b + 1)) ∧ J 1 wr) ∨
  (i = .int .i64 2 ∧ t = .int .i64 (wrap64 (b + 3)) ∧ J 2 wr) ∨ (i = .int .i64 3 ∧ t = .int .i64 (wrap64 (b + 7)) ∧ J 3 wr)

theorem row0 (w : World) : (Instr.index 30 (.agg #[.int .i64 1, .int .i64 2, .int .i64 4]) (.int .i64 0)).run Tryd.prog w = .ok (.int .i64 1) w := by kernel_rfl
theorem row1 (w : World) : (Instr.index 30 (.agg #[.int .i64 1, .int .i64 2, .int .i64 4]) (.int .i64 1)).run Tryd.prog w = .ok (.int .i64 2) w := by kernel_rfl
theorem row2 (w : World) : (Instr.index 30 (.agg #[.int .i64 1, .int .i64 2, .int .i64 4]) (.int .i64 2)).run Tryd.prog w = .ok (.int .i64 4) w := by kernel_rfl

set_option maxRecDepth 100000 in
set_option maxHeartbeats 2000000 in
theorem times_iter (F : Fence) (n : Nat) (h23 : F.fn 23) (hro : F.round = none) (hn : 1 ≤ n) (Bb : Nat) (b : Int) (w : World) (hB : Row w Bb #[.int .i64 b] 3) (hw : Held w) :
    Iter F n Tryd.prog 23 #[.pointer (some ⟨Bb, 0, none⟩)] (encF b) 4 (fun _ => False) (fun _ => False) w := by
  intro l J Jx W hW _ _ hY h0
  have hBb : W.cell? ⟨Bb, 0, none⟩ = some (.int .i64 b) := (hB.turns hW (fun h => h)).cell rfl
  obtain ⟨g0, g1, g2, -⟩ := hw.below (hW.below (Nat.le_refl _) fun _ _ h => h)
  clear hW hB
  refine callsIn_of_wp Tryd.func23 rfl h23 ?_ hro
  simp only [Tryd.ntmps23, List.size_toArray, List.length_cons, List.length_nil, Nat.reduceAdd, Nat.reduceSub, Array.replicate_succ, Array.replicate_zero, List.push_toArray, List.append_toArray, List.nil_append, List.cons_append]
  gi_wp2
  gi_loopw [3, 8] (fun t i wr => Rel b J t i wr) (fun _ i _ => 4 - (intOf i).toNat)
  case atStart => exact .inl ⟨rfl, rfl, h0⟩
  case round =>
    rcases hrel with ⟨rfl, rfl, hJ⟩ | ⟨rfl, rfl, hJ⟩ | ⟨rfl, rfl, hJ⟩ | ⟨rfl, rfl, hJ⟩
    · have hy0 : YieldAt F (n - 1) Tryd.prog l #[.int .i64 0, .int .i64 (b)] wr _ := hY 0 wr (by omega) hJ
      obtain ⟨fn, tmps, assign, body, hy, hR⟩ := hy0
      clear hY
      have i0 := row0
      gi_wp2
      refine hR.mono ?_
      rintro e W3 (⟨rfl, hJ3, _⟩ | ⟨rfl, hJx3⟩)
      · gi_wp2
        go_roundw
        case rel => exact .inr (.inl ⟨rfl, rfl, hJ3⟩)
        case measure => simp [intOf]
      · gi_wp2
        refine bodyPost_ret (results_none rfl _ _ _) rfl ?_
        exact ⟨⟨_, rfl⟩, .inr ⟨0, by omega, hJx3⟩⟩
    · have hy0 : YieldAt F (n - 1) Tryd.prog l #[.int .i64 1, .int .i64 (wrap64 (b + 1))] wr _ := hY 1 wr (by omega) hJ
      obtain ⟨fn, tmps, assign, body, hy, hR⟩ := hy0
      clear hY
      have i0 := row1
      gi_wp2
      refine hR.mono ?_
      rintro e W3 (⟨rfl, hJ3, _⟩ | ⟨rfl, hJx3⟩)
      · gi_wp2
        go_roundw
        case rel => exact .inr (.inr (.inl ⟨rfl, by rw [wrap_step1], hJ3⟩))
        case measure => simp [intOf]
      · gi_wp2
        refine bodyPost_ret (results_none rfl _ _ _) rfl ?_
        exact ⟨⟨_, rfl⟩, .inr ⟨1, by omega, hJx3⟩⟩
    · have hy0 : YieldAt F (n - 1) Tryd.prog l #[.int .i64 2, .int .i64 (wrap64 (b + 3))] wr _ := hY 2 wr (by omega) hJ
      obtain ⟨fn, tmps, assign, body, hy, hR⟩ := hy0
      clear hY
      have i0 := row2
      gi_wp2
      refine hR.mono ?_
      rintro e W3 (⟨rfl, hJ3, _⟩ | ⟨rfl, hJx3⟩)
      · gi_wp2
        go_roundw
        case rel => exact .inr (.inr (.inr ⟨rfl, by rw [wrap_step2], hJ3⟩))
        case measure => simp [intOf]
      · gi_wp2
        refine bodyPost_ret (results_none rfl _ _ _) rfl ?_
        exact ⟨⟨_, rfl⟩, .inr ⟨2, by omega, hJx3⟩⟩
    · have hy0 : YieldAt F (n - 1) Tryd.prog l #[.int .i64 3, .int .i64 (wrap64 (b + 7))] wr _ := hY 3 wr (by omega) hJ
      obtain ⟨fn, tmps, assign, body, hy, hR⟩ := hy0
      clear hY
      gi_wp2
      refine hR.mono ?_
      rintro e W3 (⟨rfl, hJ3, _⟩ | ⟨rfl, hJx3⟩)
      · gi_wp2
        go_end0
        exact ⟨⟨_, rfl⟩, .inl hJ3⟩
      · gi_wp2
        go_end0
        exact ⟨⟨_, rfl⟩, .inr ⟨3, by omega, hJx3⟩⟩

/-- The maker of the iterator. -/
theorem times_any (b : Int) (w : World) : Calls Tryd.prog 20 #[.int .i64 b] w fun e w' =>
    e = .returned (.func (.func 23) #[] #[.pointer (some ⟨w.heap.size, 0, none⟩)]) ∧ w.alloc (.cells #[.int .i64 b] 3) = w' := by
  go_enter Tryd.func20, Tryd.ntmps20
  go_wp2
  go_ret
  exact ⟨rfl, rfl⟩

/-- The plan's cells, so many of its times being there. -/
def timeIf (b : Int) (k j : Nat) : Value := .int .i64 (if j < k then timeAt b j else 0)
def planRow (b : Int) (k : Nat) : Array Value := #[timeIf b k 0, timeIf b k 1, timeIf b k 2, timeIf b k 3]
theorem planRow_zero (b : Int) : planRow b 0 = #[.int .i64 0, .int .i64 0, .int .i64 0, .int .i64 0] := rfl
theorem planRow_four (b : Int) : planRow b 4 = #[.int .i64 b, .int .i64 (wrap64 (b + 1)), .int .i64 (wrap64 (b + 3)), .int .i64 (wrap64 (b + 7))] := rfl
theorem planRow_get (b : Int) (k j : Nat) (hj : j < 4) : (planRow b k)[j]? = some (timeIf b k j) := by
  rcases j with _ | _ | _ | _ | j
  · rfl
  · rfl
  · rfl
  · rfl
  · omega
theorem planRow_set (b : Int) (k : Nat) (hk : k < 4) : (planRow b k).setIfInBounds k (.int .i64 (timeAt b k)) = planRow b (k + 1) := by
  rcases k with _ | _ | _ | _ | k
  · rfl
  · rfl
  · rfl
  · rfl
  · omega

set_option maxRecDepth 100000 in
set_option maxHeartbeats 2000000 in
theorem plan_in (b : Int) (w : World) (h : Held w) : CallsIn Fence.wide 3 Tryd.prog 14 #[.int .i64 b] w fun e w' =>
    e = .returned (.agg #[.int .i64 b, .int .i64 (wrap64 (b + 1)), .int .i64 (wrap64 (b + 3)), .int .i64 (wrap64 (b + 7))]) ∧ Below w.heap.size w w' := by
  refine callsIn_of_wp_marks Tryd.func14 rfl trivial ?_ rfl
  simp only [Tryd.ntmps14, List.size_toArray, List.length_cons, List.length_nil, Nat.reduceAdd, Nat.reduceSub, Array.replicate_succ, Array.replicate_zero, List.push_toArray, List.append_toArray, List.nil_append, List.cons_append]
  refine wpIn_wide.2 ?_
  have H := Lib.hid h
  clear h
  go_wp2_with (go_at_call 20; refine (times_any _ _).mono ?_; rintro e w' ⟨rfl, rfl⟩)
  have hres : Row (((w.alloc (.cells #[.int .i64 0, .int .i64 0, .int .i64 0, .int .i64 0] 24)).alloc (.cells #[.int .i64 0, .int .i64 0, .int .i64 0, .int .i64 0] 24)).alloc (.cells #[.int .i64 b] 3)) w.heap.size (planRow b 0) 24 := ((Row.new w _ 24).alloc _).alloc _
  have hplan : Row (((w.alloc (.cells #[.int .i64 0, .int .i64 0, .int .i64 0, .int .i64 0] 24)).alloc (.cells #[.int .i64 0, .int .i64 0, .int .i64 0, .int .i64 0] 24)).alloc (.cells #[.int .i64 b] 3)) (w.heap.size + 1) (planRow b 0) 24 := by
    have := (Row.new (w.alloc (.cells #[.int .i64 0, .int .i64 0, .int .i64 0, .int .i64 0] 24)) #[.int .i64 0, .int .i64 0, .int .i64 0, .int .i64 0] 24).alloc (.cells #[.int .i64 b] 3)
    rwa [World.size_alloc] at this
  have hbox : Row (((w.alloc (.cells #[.int .i64 0, .int .i64 0, .int .i64 0, .int .i64 0] 24)).alloc (.cells #[.int .i64 0, .int .i64 0, .int .i64 0, .int .i64 0] 24)).alloc (.cells #[.int .i64 b] 3)) (w.heap.size + 1 + 1) #[.int .i64 b] 3 := by
    have := Row.new ((w.alloc (.cells #[.int .i64 0, .int .i64 0, .int .i64 0, .int .i64 0] 24)).alloc (.cells #[.int .i64 0, .int .i64 0, .int .i64 0, .int .i64 0] 24)) #[.int .i64 b] 3
    rwa [World.size_alloc, World.size_alloc] at this
  have hbel : Below w.heap.size w (((w.alloc (.cells #[.int .i64 0, .int .i64 0, .int .i64 0, .int .i64 0] 24)).alloc (.cells #[.int .i64 0, .int .i64 0, .int .i64 0, .int .i64 0] 24)).alloc (.cells #[.int .i64 b] 3)) :=
    (((Below.refl _ w).alloc (Nat.le_refl _) _).alloc (by simp) _).alloc (by simp; omega) _
  have hsize : (((w.alloc (.cells #[.int .i64 0, .int .i64 0, .int .i64 0, .int .i64 0] 24)).alloc (.cells #[.int .i64 0, .int .i64 0, .int .i64 0, .int .i64 0] 24)).alloc (.cells #[.int .i64 b] 3)).heap.size = w.heap.size + 3 := by simp
  generalize ((w.alloc (.cells #[.int .i64 0, .int .i64 0, .int .i64 0, .int .i64 0] 24)).alloc (.cells #[.int .i64 0, .int .i64 0, .int .i64 0, .int .i64 0] 24)).alloc (.cells #[.int .i64 b] 3) = w3 at *
  obtain ⟨m, hm⟩ : ∃ m, w.heap.size = m := ⟨_, rfl⟩
  have hld := H.out.below hbel
  rw [hm] at hres hplan hbox hsize ⊢
  have HM := Lib.hid hm
  clear hm
  refine (wpIn_wide (n := 3)).1 (wpIn_range rfl (by omega) (gf := 23) (lb := #[.pointer (some ⟨m + 1 + 1, 0, none⟩)]) rfl trivial (enters_of Tryd.func23 (by kernel_rfl) rfl)
    (times_iter Fence.wide (3 - 1) trivial rfl (by omega) (m + 1 + 1) b w3 hbox hld) (fun _ => rfl)
    (fun k => k = m + 1) (fun k hk => by omega) (fun _ h => h.elim) (fun _ h => h.elim)
    (fun k W => Row W (m + 1) (planRow b k) 24) (fun _ _ _ => False)
    (fun k A B h hb => h.same (hb _ rfl)) (fun _ _ _ _ h _ => h) hplan
    (fun k => { tmps := #[.int .i64 b, undef, .pointer (some ⟨m, 0, none⟩), .pointer (some ⟨m + 1, 0, none⟩), .int .i64 (k : Int), .int .i64 (timeAt b k), .int .i64 b, .func (.func 23) #[] #[.pointer (some ⟨m + 1 + 1, 0, none⟩)], .int .i64 (k : Int), .int .i64 (timeAt b k), undef, undef, undef, undef], defers := [] }) ?assign ?body ?done ?stop)
  case assign =>
    intro l k W K hK
    simp only [encF]
    gi_wp2
    exact hK
  case body =>
    intro l k W hk _ hI
    have hc := hI.cell (planRow_get b k k hk)
    have hf := hI.free k
    gi_wp2
    refine ⟨(Turns.refl (fun k => k = m + 1) W).setCell (p := ⟨m + 1, k, none⟩) (.inr rfl) _, ?_⟩
    have := hI.set k (.int .i64 (timeAt b k))
    rwa [planRow_set b k hk] at this
  case done =>
    intro D W hD ht hI hK
    rw [planRow_four] at hI
    have c0 := hI.cell (j := 0) (v := .int .i64 (b)) rfl
    have c1 := hI.cell (j := 1) (v := .int .i64 (wrap64 (b + 1))) rfl
    have c2 := hI.cell (j := 2) (v := .int .i64 (wrap64 (b + 3))) rfl
    have c3 := hI.cell (j := 3) (v := .int .i64 (wrap64 (b + 7))) rfl
    have hR := hres.turns ht (by rintro (h | h) <;> omega)
    rw [planRow_zero] at hR
    have r0 := hR.cell (j := 0) (v := .int .i64 0) rfl
    have r1 := hR.cell (j := 1) (v := .int .i64 0) rfl
    have r2 := hR.cell (j := 2) (v := .int .i64 0) rfl
    have r3 := hR.cell (j := 3) (v := .int .i64 0) rfl
    have f0 := hR.free 0
    have f1 := hR.free 1
    have f2 := hR.free 2
    have f3 := hR.free 3
    go_wp2
    have hR4 : Row ((((W.setCell ⟨m, 0, none⟩ (.int .i64 b)).setCell ⟨m, 1, none⟩ (.int .i64 (wrap64 (b + 1)))).setCell ⟨m, 2, none⟩ (.int .i64 (wrap64 (b + 3)))).setCell ⟨m, 3, none⟩ (.int .i64 (wrap64 (b + 7)))) m (planRow b 4) 24 :=
      (((hR.set 0 _).set 1 _).set 2 _).set 3 _
    have hT4 : Turns (fun x => x = m) W ((((W.setCell ⟨m, 0, none⟩ (.int .i64 b)).setCell ⟨m, 1, none⟩ (.int .i64 (wrap64 (b + 1)))).setCell ⟨m, 2, none⟩ (.int .i64 (wrap64 (b + 3)))).setCell ⟨m, 3, none⟩ (.int .i64 (wrap64 (b + 7)))) :=
      ((((Turns.refl (fun x => x = m) W).setCell (p := ⟨m, 0, none⟩) (.inr rfl) _).setCell (p := ⟨m, 1, none⟩) (.inr rfl) _).setCell (p := ⟨m, 2, none⟩) (.inr rfl) _).setCell (p := ⟨m, 3, none⟩) (.inr rfl) _
    generalize (((W.setCell ⟨m, 0, none⟩ (.int .i64 b)).setCell ⟨m, 1, none⟩ (.int .i64 (wrap64 (b + 1)))).setCell ⟨m, 2, none⟩ (.int .i64 (wrap64 (b + 3)))).setCell ⟨m, 3, none⟩ (.int .i64 (wrap64 (b + 7))) = W4 at *
    have hK4 : W4.heap[D]? = some (.deferred (some [])) := (hT4.block D (Array.getElem?_eq_some_iff.1 hK).1 (by omega)).trans hK
    refine ⟨by simp, .inl ⟨_, _, rfl, run_takeDeferred hK4, ?_⟩⟩
    have hR5 : Row (W4.putObj D (.deferred none)) m (planRow b 4) 24 := (World.putObj_heap_other (by omega)).trans hR4
    have d0 := hR5.cell (j := 0) (v := .int .i64 b) rfl
    have d1 := hR5.cell (j := 1) (v := .int .i64 (wrap64 (b + 1))) rfl
    have d2 := hR5.cell (j := 2) (v := .int .i64 (wrap64 (b + 3))) rfl
    have d3 := hR5.cell (j := 3) (v := .int .i64 (wrap64 (b + 7))) rfl
    have hbl : Below m w (W4.putObj D (.deferred none)) := by
      have hb := HM.out ▸ hbel
      exact ((hb.trans (ht.below (by omega) (fun k hk => by rintro (h | h) <;> omega))).trans (hT4.below (by have := ht.size; omega) (fun k hk => by omega))).trans
        (((Turns.refl (fun x => x = D) W4).putObj (.inr rfl) _).below (by have := ht.size; have := hT4.size; omega) (fun k hk => by omega))
    refine ⟨.agg #[.int .i64 b, .int .i64 (wrap64 (b + 1)), .int .i64 (wrap64 (b + 3)), .int .i64 (wrap64 (b + 7))], ?_, rfl, by rw [HM.out]; exact hbl⟩
    simp [results, Tryd.f14, go_sem, d0, d1, d2, d3]
  case stop =>
    intro D c k W _ _ _ h _
    exact h.elim

theorem plan_any (b : Int) (w : World) (h : Held w) : Calls Tryd.prog 14 #[.int .i64 b] w fun e w' =>
    e = .returned (.agg #[.int .i64 b, .int .i64 (wrap64 (b + 1)), .int .i64 (wrap64 (b + 3)), .int .i64 (wrap64 (b + 7))]) ∧ Below w.heap.size w w' :=
  callsIn_wide.1 (plan_in b w h)
end Go.Proofs.YtpalgphkpmhpjaaDoor
