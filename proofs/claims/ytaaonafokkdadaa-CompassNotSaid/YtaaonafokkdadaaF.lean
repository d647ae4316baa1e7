/-
  The point turned by 0, 1, 2 and 3 quarters, as package compass hands it on.
-/
import Derived.Test.YtaaonafokkdadaaE
import Derived.Test.YtaaonafokkdadaaLoops
import Derived.Test.YtaaonafokkdadaaScopes
import Derived.RangeFuncCalls
import Derived.RangeFuncBox
import Derived.Shelf.Abstract
import Derived.Shelf.RegionOpen
import Derived.OwnWalkIn
import Derived.TacticsInMore
import Derived.LoopNIn
import Derived.LoopIn
namespace Go.Proofs.Ytaaonafokkdadaa
open Go Go.RowKit Go.Shelf
theorem run_store_complex {P : Program} {w : World} (a : Addr) (md : Mode) (k : FloatKind) (n m : Nat) : (store a (.complex k n m) md).run P w = stored P w a (.complex k n m) md := run_store P w a _ md rfl
attribute [local go_sem] Oper.semAt_some run_store_complex

/-- The point (x, y) turned k times; its words (the first ones as they came). -/
def rot (x y : Int) : Nat → Int × Int
  | 0 => (x, y)
  | k + 1 => (-(rot x y k).2, (rot x y k).1)
def wd (a b : Nat) (x y : Int) : Nat → Nat × Nat
  | 0 => (a, b)
  | k + 1 => (fl (rot x y (k + 1)).1, fl (rot x y (k + 1)).2)
theorem rot_bd (x y : Int) (hx : x.natAbs ≤ 1000000) (hy : y.natAbs ≤ 1000000) (k : Nat) : (rot x y k).1.natAbs ≤ 1000000 ∧ (rot x y k).2.natAbs ≤ 1000000 := by
  induction k with
  | zero => exact ⟨hx, hy⟩
  | succ k ih =>
    show (-(rot x y k).2).natAbs ≤ 1000000 ∧ (rot x y k).1.natAbs ≤ 1000000
    omega
theorem wd_fl {a b : Nat} {x y : Int} (ha : Fl a x) (hb : Fl b y) (hx : x.natAbs ≤ 1000000) (hy : y.natAbs ≤ 1000000) (k : Nat) : Fl (wd a b x y k).1 (rot x y k).1 ∧ Fl (wd a b x y k).2 (rot x y k).2 := by
  cases k with
  | zero => exact ⟨ha, hb⟩
  | succ k =>
    have := rot_bd x y hx hy (k + 1)
    exact ⟨fl_Fl _ (by omega), fl_Fl _ (by omega)⟩
def encZ (a b : Nat) (x y : Int) (k : Nat) : Array Value := #[.int .i64 k, .complex .f64 (wd a b x y k).1 (wd a b x y k).2]

theorem around_any (a b : Nat) (w : World) : Calls Try.prog 22 #[.complex .f64 a b] w fun e w' =>
    e = .returned (.func (.func 28) #[] #[.pointer (some ⟨w.heap.size, 0, none⟩)]) ∧ w.alloc (.cells #[.complex .f64 a b] 23) = w' := by
  go_enter Try.func22, Try.ntmps22
  go_wp2
  go_ret
  exact ⟨rfl, rfl⟩

set_option maxRecDepth 100000 in
set_option maxHeartbeats 1000000 in
theorem around_iter (n : Nat) (B a b : Nat) (x y : Int) (ha : Fl a x) (hb : Fl b y) (hx : x.natAbs ≤ 1000000) (hy : y.natAbs ≤ 1000000) (w : World) (hB : Row w B #[.complex .f64 a b] 23) :
    Iter Fence.wide n Try.prog 28 #[.pointer (some ⟨B, 0, none⟩)] (encZ a b x y) 4 (fun k => k = B) (fun k => k = B) w := by
  intro l J Jx W hW hJ _ hY h0
  have hrow := hB.turns hW (fun h => h)
  have HT : Hid (∀ k W, Calls Try.prog 29 #[.complex .f64 (wd a b x y k).1 (wd a b x y k).2] W fun e w' => e = .returned (.complex .f64 (wd a b x y (k + 1)).1 (wd a b x y (k + 1)).2) ∧ W = w') := Lib.hid (fun k W =>
    turn_any _ _ _ _ (wd_fl ha hb hx hy k).1 (wd_fl ha hb hx hy k).2 (rot_bd x y hx hy k).1 (rot_bd x y hx hy k).2 W)
  have HJ := Lib.hid hJ
  clear hB hW ha hb hx hy hJ
  refine callsIn_of_wp Try.func28 rfl trivial ?_ rfl
  simp only [Try.ntmps28, List.size_toArray, List.length_cons, List.length_nil, Nat.reduceAdd, Nat.reduceSub, Array.replicate_succ, Array.replicate_zero, List.push_toArray, List.append_toArray, List.nil_append, List.cons_append]
  gi_wp2
  gi_loopw [4] (fun i wr => ∃ k : Nat, k ≤ 4 ∧ i = .int .i64 k ∧ J k wr ∧ Row wr B #[.complex .f64 (wd a b x y k).1 (wd a b x y k).2] 23) (fun i _ => 4 - (intOf i).toNat)
  case atStart => exact ⟨0, Nat.zero_le _, rfl, h0, hrow⟩
  case round =>
    obtain ⟨k, hk, rfl, hJk, hr⟩ := hrel
    clear hrow
    have hc := hr.cell (j := 0) (v := .complex .f64 (wd a b x y k).1 (wd a b x y k).2) rfl
    by_cases hlt : k < 4
    · have hy0 := hY k wr hlt hJk
      unfold encZ at hy0
      obtain ⟨fn, tmps, assign, body, hy, hR⟩ := hy0
      have HTk := Lib.hid (HT.out k)
      clear hY HT
      generalize hE : wd a b x y k = E at *
      gi_wp2
      refine ⟨(fun h => by cases h), ?_⟩
      refine hR.mono ?_
      rintro e W3 (⟨rfl, hJ3, hS3⟩ | ⟨rfl, hJx3⟩)
      · have hr3 := hr.same (hS3 B rfl)
        have hc3 := hr3.cell (j := 0) (v := .complex .f64 E.1 E.2) rfl
        have hf3 := hr3.free 0
        gi_wp2_with fail
        refine ⟨trivial, (fun h => by cases h), ?_⟩
        refine CallsIn.mono (callsIn_wide.2 (HTk.out _)) ?_
        rintro e w' ⟨rfl, rfl⟩
        gi_wp2
        go_roundw
        case rel => exact ⟨k + 1, by omega, by go_num, HJ.out _ _ _ hJ3 ((Turns.refl (fun k => k = B) W3).setCell (p := ⟨B, 0, none⟩) (.inr rfl) _), hr3.set 0 _⟩
        case measure => simp [intOf]; omega
      · gi_wp2
        refine bodyPost_ret (results_none rfl _ _ _) rfl ?_
        exact ⟨⟨_, rfl⟩, .inr ⟨k, hlt, hJx3⟩⟩
    · obtain rfl : k = 4 := by omega
      gi_wp2
      go_end0
      exact ⟨⟨_, rfl⟩, .inl hJk⟩
end Go.Proofs.Ytaaonafokkdadaa
