/-
  The contracts in the form in which the laws use them, and what 'wakes' answers.
-/
import Derived.Test.YtfbkhendpbhfcaaDoorC
namespace Go.Proofs.YtfbkhendpbhfcaaDoor
open Go.RowKit Go.Shelf

/-- w0 has at most grown to w, and the table lies there. -/
def Good (w0 w : World) : Prop := Below w0.heap.size w0 w ∧ Held w
theorem Good.below {w0 w w' : World} (h : Good w0 w) (hb : Below w.heap.size w w') : Good w0 w' := ⟨h.1.trans (hb.mono h.1.size), h.2.below hb⟩
theorem Good.start {w : World} (h : Held w) : Good w w := ⟨Below.refl _ _, h⟩
theorem Good.alloc {w0 w : World} (h : Good w0 w) (o : Obj) : Good w0 (w.alloc o) := h.below ((Below.refl _ w).alloc (Nat.le_refl _) o)

theorem start_g (w0 : World) (a i : Int) (w : World) (h : Good w0 w) : Calls Tryd.prog 20 #[.int .i64 a, .int .i64 i] w fun e w' => e = .returned (.int .i64 (startF a i)) ∧ Below w.heap.size w w' ∧ Good w0 w' :=
  (start_any a i w h.2).mono fun _ _ ⟨he, hb⟩ => ⟨he, hb, h.below hb⟩
theorem own_g (w0 : World) (v : Value) (zs : List Int) (hn : zs.length ≤ 1000) (key : Int) (w : World) (hi : Ints w v zs) (h : Good w0 w) :
    Calls Tryd.prog 10 #[v, .int .i64 key] w fun e w' => e = .returned (.tuple #[.int .i64 (ownA key zs), .bool (decide (zs ≠ []))]) ∧ Below w.heap.size w w' ∧ Good w0 w' :=
  (own_any v zs hn key w hi).mono fun _ _ ⟨he, hb⟩ => ⟨he, hb, h.below hb⟩
theorem refown_g (w0 : World) (v : Value) (zs : List Int) (hn : zs.length ≤ 1000) (key : Int) (w : World) (hi : Ints w v zs) (h : Good w0 w) :
    Calls Tryd.prog 11 #[v, .int .i64 key] w fun e w' => e = .returned (.tuple #[.int .i64 (ownA key zs), .bool (decide (zs ≠ []))]) ∧ Below w.heap.size w w' ∧ Good w0 w' :=
  (refown_any v zs hn key w hi).mono fun _ _ ⟨he, hb⟩ => ⟨he, hb, h.below hb⟩
theorem rises_g (w0 : World) (v : Value) (zs : List Int) (hn : zs.length ≤ 1000) (a : Int) (w : World) (hi : Ints w v zs) (h : Good w0 w) :
    Calls Tryd.prog 22 #[.int .i64 a, v] w fun e w' => e = .returned (.bool (risesF a 0 zs)) ∧ Below w.heap.size w w' ∧ Good w0 w' :=
  (rises_any v zs hn a w hi).mono fun _ _ ⟨he, hb⟩ => ⟨he, hb, h.below hb⟩
theorem refrises_g (w0 : World) (v : Value) (zs : List Int) (hn : zs.length ≤ 1000) (a : Int) (w : World) (hi : Ints w v zs) (h : Good w0 w) :
    Calls Tryd.prog 23 #[.int .i64 a, v] w fun e w' => e = .returned (.bool (risesF a 0 zs)) ∧ Below w.heap.size w w' ∧ Good w0 w' :=
  (refrises_any v zs hn a w hi).mono fun _ _ ⟨he, hb⟩ => ⟨he, hb, h.below hb⟩

theorem ints_new (w : World) (zs : List Int) (t : TypeId) (c : Nat) : Ints (w.alloc (.cells (zs.map (Value.int .i64 ·)).toArray t)) (.slice (some ⟨w.heap.size, 0, none⟩) zs.length c) zs :=
  ⟨_, c, by rw [List.length_map], .inr ⟨w.heap.size, 0, rfl, by simp, fun j u hj => by
    rw [Nat.zero_add]
    exact (Row.new w (zs.map (Value.int .i64 ·)).toArray t).cell (by simpa using hj)⟩⟩

theorem own_one (w0 : World) (v : Value) (w : World) (hi : Ints w v [5, 9, 65530]) (h : Good w0 w) :
    Calls Tryd.prog 10 #[v, .int .i64 10] w fun e w' => e = .returned (.tuple #[.int .i64 65530, .bool true]) ∧ Good w0 w' := by
  refine (own_g w0 v _ (by decide) 10 w hi h).mono ?_
  rintro e w' ⟨he, -, hg⟩
  rw [show ownA 10 [5, 9, 65530] = 65530 by decide +kernel] at he
  exact ⟨he, hg⟩
theorem own_two (w0 : World) (w : World) (h : Good w0 w) :
    Calls Tryd.prog 10 #[.slice none 0 0, .int .i64 3] w fun e w' => e = .returned (.tuple #[.int .i64 0, .bool false]) ∧ Good w0 w' := by
  refine (own_g w0 _ [] (by decide) 3 w (Lies.nil w) h).mono ?_
  rintro e w' ⟨he, -, hg⟩
  exact ⟨he, hg⟩
theorem rises_one (w0 : World) (v : Value) (zs : List Int) (a : Int) (r : Bool) (hr : risesF a 0 zs = r) (hn : zs.length ≤ 1000) (w : World) (hi : Ints w v zs) (h : Good w0 w) :
    Calls Tryd.prog 22 #[.int .i64 a, v] w fun e w' => e = .returned (.bool r) ∧ Good w0 w' := by
  subst hr
  exact (rises_g w0 v zs hn a w hi h).mono fun _ _ h => ⟨h.1, h.2.2⟩
theorem start_one (w0 : World) (a i r : Int) (hr : startF a i = r) (w : World) (h : Good w0 w) : Calls Tryd.prog 20 #[.int .i64 a, .int .i64 i] w fun e w' => e = .returned (.int .i64 r) ∧ Good w0 w' := by
  subst hr
  exact (start_g w0 a i w h).mono fun _ _ h => ⟨h.1, h.2.2⟩

set_option maxRecDepth 100000 in
set_option maxHeartbeats 2000000 in
theorem wakes_g (w0 : World) (w : World) (h : Good w0 w) : Calls Tryd.prog 9 #[] w fun e w' => e = .returned (.bool true) ∧ Good w0 w' := by
  have e1 : far 65535 1 = 2 := by decide +kernel
  have e2 : inB 65535 0 1 = true := by decide +kernel
  have e3 : inB 65535 1 1 = false := by decide +kernel
  have e4 : upB 65535 1 1 = true := by decide +kernel
  have e5 : inB 4 5 4 = true := by decide +kernel
  have e6 : inB 4 4 4 = false := by decide +kernel
  go_enter Tryd.func9, Tryd.ntmps9
  go_wp2_with fail
  refine (own_one w0 _ _ (ints_new w [5, 9, 65530] 3 3) (h.alloc _)).mono ?_; rintro e w1 ⟨rfl, h1⟩
  go_wp2_with fail
  refine (own_two w0 _ h1).mono ?_; rintro e w2 ⟨rfl, h2⟩
  go_wp2_with (first
    | (go_at_call 14; refine (far_any _ _ _).mono ?_; rintro e w' ⟨rfl, rfl⟩)
    | (go_at_call 16; refine (in_any _ _ _ _).mono ?_; rintro e w' ⟨rfl, rfl⟩)
    | (go_at_call 18; refine (upto_any _ _ _ _).mono ?_; rintro e w' ⟨rfl, rfl⟩)
    | (go_at_call 12; refine (place_any _ _).mono ?_; rintro e w' ⟨rfl, rfl⟩))
  refine (start_one w0 65535 1 1 (by decide +kernel) _ h2).mono ?_; rintro e w3 ⟨rfl, h3⟩
  go_wp2_with fail
  refine (start_one w0 3 16 3 (by decide +kernel) _ h3).mono ?_; rintro e w4 ⟨rfl, h4⟩
  go_wp2_with fail
  refine (rises_one w0 _ [10, 65535, 8] 9 true (by decide +kernel) (by decide) _ (ints_new w4 [10, 65535, 8] 3 3) (h4.alloc _)).mono ?_; rintro e w5 ⟨rfl, h5⟩
  go_wp2_with fail
  refine (rises_one w0 _ [10, 9] 9 false (by decide +kernel) (by decide) _ (ints_new w5 [10, 9] 3 2) (h5.alloc _)).mono ?_; rintro e w6 ⟨rfl, h6⟩
  go_wp2_with fail
  refine (rises_one w0 _ [9] 9 false (by decide +kernel) (by decide) _ (ints_new w6 [9] 3 1) (h6.alloc _)).mono ?_; rintro e w7 ⟨rfl, h7⟩
  go_wp2_with fail
  refine (rises_one w0 _ [] 0 true (by decide +kernel) (by decide) _ (Lies.nil w7) h7).mono ?_; rintro e w8 ⟨rfl, h8⟩
  go_wp2_with (go_at_call 16; refine (in_any _ _ _ _).mono ?_; rintro e w' ⟨rfl, rfl⟩)
  go_ret
  exact ⟨rfl, h8⟩
end Go.Proofs.YtfbkhendpbhfcaaDoor
