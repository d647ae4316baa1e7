/-
  The contracts in the form in which the laws use them, and what 'wakes' answers.
-/
import Derived.Test.YtganhbebklmdnaaD
namespace Go.Proofs.Ytganhbebklmdnaa
open Go.RowKit Go.Shelf

/-- w0 has at most grown to w. -/
def Good (w0 w : World) : Prop := Below w0.heap.size w0 w
theorem Good.below {w0 w w' : World} (h : Good w0 w) (hb : Below w.heap.size w w') : Good w0 w' := Below.trans h (hb.mono (Below.size h))
theorem Good.start (w : World) : Good w w := Below.refl _ _
theorem Good.alloc {w0 w : World} (h : Good w0 w) (o : Obj) : Good w0 (w.alloc o) := h.below ((Below.refl _ w).alloc (Nat.le_refl _) o)

theorem next_g (w0 : World) (a b : Int) (hb1 : 0 ≤ b) (hb2 : b ≤ 255) (w : World) (h : Good w0 w) : Calls Try.prog 13 #[.int .i64 a, .int .u8 b] w fun e w' => e = .returned (.int .i64 (nextF a b)) ∧ Good w0 w' :=
  (next_any a b hb1 hb2 w).mono fun _ _ ⟨he, hw⟩ => ⟨he, hw ▸ h⟩
theorem refnext_g (w0 : World) (a b : Int) (hb1 : 0 ≤ b) (hb2 : b ≤ 255) (w : World) (h : Good w0 w) : Calls Try.prog 14 #[.int .i64 a, .int .u8 b] w fun e w' => e = .returned (.int .i64 (nextF a b)) ∧ Good w0 w' :=
  (refnext_any a b hb1 hb2 w).mono fun _ _ ⟨he, hw⟩ => ⟨he, hw ▸ h⟩
theorem before_g (w0 : World) (a b : Int) (hb1 : 0 ≤ b) (hb2 : b ≤ 255) (w : World) (h : Good w0 w) : Calls Try.prog 15 #[.int .i64 a, .int .u8 b] w fun e w' => e = .returned (.int .i64 (beforeF a b)) ∧ Good w0 w' :=
  (before_any a b hb1 hb2 w).mono fun _ _ ⟨he, hw⟩ => ⟨he, hw ▸ h⟩
theorem refbefore_g (w0 : World) (a b : Int) (hb1 : 0 ≤ b) (hb2 : b ≤ 255) (w : World) (h : Good w0 w) : Calls Try.prog 16 #[.int .i64 a, .int .u8 b] w fun e w' => e = .returned (.int .i64 (beforeF a b)) ∧ Good w0 w' :=
  (refbefore_any a b hb1 hb2 w).mono fun _ _ ⟨he, hw⟩ => ⟨he, hw ▸ h⟩
theorem go_g (w0 : World) (a : Int) (s : ByteArray) (hs : s.size ≤ maxLen) (w : World) (h : Good w0 w) : Calls Try.prog 17 #[.int .i64 a, .string s] w fun e w' => e = .returned (.int .i64 (goF a s s.size)) ∧ Good w0 w' :=
  (go_any a s hs w).mono fun _ _ ⟨he, hb⟩ => ⟨he, h.below hb⟩
theorem refgo_g (w0 : World) (a : Int) (s : ByteArray) (hs : s.size ≤ maxLen) (w : World) (h : Good w0 w) : Calls Try.prog 18 #[.int .i64 a, .string s] w fun e w' => e = .returned (.int .i64 (goF a s s.size)) ∧ Good w0 w' :=
  (refgo_any a s hs w).mono fun _ _ ⟨he, hw⟩ => ⟨he, hw ▸ h⟩
theorem of_g (w0 : World) (s : ByteArray) (hs : s.size ≤ maxLen) (w : World) (h : Good w0 w) : Calls Try.prog 9 #[.string s] w fun e w' => e = .returned (.tuple #[.int .i64 (ofP s), .int .i64 (ofE s)]) ∧ Good w0 w' :=
  (of_any s hs w).mono fun _ _ ⟨he, hb⟩ => ⟨he, h.below hb⟩
theorem refof_g (w0 : World) (s : ByteArray) (hs : s.size ≤ maxLen) (w : World) (h : Good w0 w) : Calls Try.prog 10 #[.string s] w fun e w' => e = .returned (.tuple #[.int .i64 (ofP s), .int .i64 (ofE s)]) ∧ Good w0 w' :=
  (refof_any s hs w).mono fun _ _ ⟨he, hw⟩ => ⟨he, hw ▸ h⟩

def sA : ByteArray := ⟨#[97]⟩
def sB : ByteArray := ⟨#[98]⟩
def sNone : ByteArray := ⟨#[]⟩
def sLong : ByteArray := ⟨#[48, 49, 50, 51, 52, 53, 54, 55, 56, 57, 48, 49, 50, 51, 52, 53, 54, 55, 56, 57, 48]⟩

theorem of_a (w0 w : World) (h : Good w0 w) : Calls Try.prog 9 #[.string { data := #[97] }] w fun e w' => e = .returned (.tuple #[.int .i64 21475, .int .i64 0]) ∧ Good w0 w' := by
  have := of_g w0 sA (by decide) w h
  rwa [show ofP sA = 21475 by decide +kernel, show ofE sA = 0 by decide +kernel] at this
theorem of_none (w0 w : World) (h : Good w0 w) : Calls Try.prog 9 #[.string { data := #[] }] w fun e w' => e = .returned (.tuple #[.int .i64 0, .int .i64 2]) ∧ Good w0 w' := by
  have := of_g w0 sNone (by decide) w h
  rwa [show ofP sNone = 0 by decide +kernel, show ofE sNone = 2 by decide +kernel] at this
theorem of_long (w0 w : World) (h : Good w0 w) : Calls Try.prog 9 #[.string { data := #[48, 49, 50, 51, 52, 53, 54, 55, 56, 57, 48, 49, 50, 51, 52, 53, 54, 55, 56, 57, 48] }] w fun e w' => e = .returned (.tuple #[.int .i64 0, .int .i64 2]) ∧ Good w0 w' := by
  have := of_g w0 sLong (by decide) w h
  rwa [show ofP sLong = 0 by decide +kernel, show ofE sLong = 2 by decide +kernel] at this
theorem go_a (w0 w : World) (h : Good w0 w) : Calls Try.prog 17 #[.int .i64 7, .string { data := #[97] }] w fun e w' => e = .returned (.int .i64 21475) ∧ Good w0 w' := by
  have := go_g w0 7 sA (by decide) w h
  rwa [show goF 7 sA sA.size = 21475 by decide +kernel] at this
theorem go_none (w0 w : World) (h : Good w0 w) : Calls Try.prog 17 #[.int .i64 (-1), .string { data := #[] }] w fun e w' => e = .returned (.int .i64 65535) ∧ Good w0 w' := by
  have := go_g w0 (-1) sNone (by decide) w h
  rwa [show goF (-1) sNone sNone.size = 65535 by decide +kernel] at this

def abRow : List Value := [.int .i64 21475, .int .i64 21476]
theorem row_ab (w0 : World) (v : Value) (w : World) (h : Good w0 w) (hk : Keys w v [sA, sB]) : Calls Try.prog 11 #[v] w fun e w' => ∃ v', e = .returned (.tuple #[v', .int .i64 0]) ∧ Lies w' v' abRow ∧ Good w0 w' := by
  refine (row_yes v [sA, sB] (by decide) (by decide) (by decide +kernel) w hk).mono ?_
  rintro e w' ⟨v', he, hl, hb⟩
  have ep : places [sA, sB] = abRow := by
    show [Value.int .i64 (ofP sA), .int .i64 (ofP sB)] = _
    rw [show ofP sA = 21475 by decide +kernel, show ofP sB = 21476 by decide +kernel]
    rfl
  rw [ep] at hl
  exact ⟨v', he, hl, h.below hb⟩

theorem lies_new (w : World) (xs : List Value) (t : TypeId) (c : Nat) : Lies (w.alloc (.cells xs.toArray t)) (.slice (some ⟨w.heap.size, 0, none⟩) xs.length c) xs :=
  ⟨_, c, rfl, .inr ⟨w.heap.size, 0, rfl, by simp, fun j u hj => by
    rw [Nat.zero_add]
    exact (Row.new w xs.toArray t).cell (by simpa using hj)⟩⟩

set_option maxRecDepth 100000 in
set_option maxHeartbeats 2000000 in
theorem wakes_g (w0 : World) (w : World) (h : Good w0 w) : Calls Try.prog 8 #[] w fun e w' => e = .returned (.bool true) ∧ Good w0 w' := by
  have n1 : nextF 0 0 = 1 := by decide +kernel
  have n2 : nextF 7 97 = 21475 := by decide +kernel
  have n3 : beforeF 1 0 = 0 := by decide +kernel
  go_enter Try.func8, Try.ntmps8
  go_wp2_with fail
  refine (of_a w0 _ h).mono ?_; rintro e w1 ⟨rfl, h1⟩
  go_wp2_with fail
  refine (of_none w0 _ h1).mono ?_; rintro e w2 ⟨rfl, h2⟩
  go_wp2_with fail
  refine (of_long w0 _ h2).mono ?_; rintro e w3 ⟨rfl, h3⟩
  go_wp2_with fail
  refine (row_ab w0 _ _ (h3.alloc _) (lies_new w3 [.string sA, .string sB] 9 2)).mono ?_; rintro e w4 ⟨v, rfl, hv, h4⟩
  have hv2 := hv.below ((Below.refl _ w4).alloc (Nat.le_refl _) (.cells #[.int .i64 21475, .int .i64 21476] 3))
  have hn2 := lies_new w4 abRow 3 2
  have HI := Lib.hid (ints_same v _ abRow [21475, 21476] rfl (by decide) _ hv2 hn2)
  clear hv hv2 hn2
  go_wp2_with (first
    | (go_at_call 13; refine (next_any _ _ (by omega) (by omega) _).mono ?_; rintro e w' ⟨rfl, rfl⟩)
    | (go_at_call 19; refine HI.out.mono ?_; rintro e w' ⟨rfl, hb⟩; have h5 : Good w0 w' := Good.below (h4.alloc _) hb))
  refine (before_any _ _ (by omega) (by omega) _).mono ?_; rintro e w5 ⟨rfl, rfl⟩
  go_wp2_with fail
  refine (go_a w0 _ h5).mono ?_; rintro e w6 ⟨rfl, h6⟩
  go_wp2_with fail
  refine (go_none w0 _ h6).mono ?_; rintro e w7 ⟨rfl, h7⟩
  go_wp2
  go_ret
  exact ⟨rfl, h7⟩
end Go.Proofs.Ytganhbebklmdnaa
