/-
  The law FrameTells: the walk.
-/
import Derived.Test.YtclohcbhnlnddaaN
namespace Go.Proofs.Ytclohcbhnlnddaa
open Go.RowKit Go.Shelf

/-- What a call hands back, the error aside. -/
def closeL (p : List (BitVec 8)) : List (BitVec 8) := if closeE p = 0 then closeF p else []
def openL (b : List (BitVec 8)) : List (BitVec 8) := if openE b = 0 then payload b else []
theorem bytes_or {E : Int} {X : List (BitVec 8)} {w : World} {u : Value} (h1 : E = 0 → Bytes w u X) (h2 : E ≠ 0 → u = .slice none 0 0) : Bytes w u (if E = 0 then X else []) := by
  split
  · rename_i h; exact h1 h
  · rename_i h; rw [h2 h]; exact (OwnB.nil w).bytes
theorem close_l (v : Value) (p : List (BitVec 8)) (w : World) (hp : Bytes w v p) : Calls Try.prog 10 #[v] w fun e w' =>
    ∃ a k, e = .returned (.tuple #[.slice a (closeL p).length k, .int .i64 (closeE p)]) ∧ Bytes w' (.slice a (closeL p).length k) (closeL p) ∧ Below w.heap.size w w' :=
  (close_any v p w hp).mono fun e w' ⟨u, he, h1, h2, hb⟩ => by
    have h := bytes_or h1 h2
    obtain ⟨a, k, rfl, -⟩ := h.shape
    exact ⟨a, k, he, h, hb⟩
theorem refclose_l (v : Value) (p : List (BitVec 8)) (w : World) (hp : Bytes w v p) : Calls Try.prog 11 #[v] w fun e w' =>
    ∃ a k, e = .returned (.tuple #[.slice a (closeL p).length k, .int .i64 (closeE p)]) ∧ Bytes w' (.slice a (closeL p).length k) (closeL p) ∧ Below w.heap.size w w' :=
  (refclose_any v p w hp).mono fun e w' ⟨u, he, h1, h2, hb⟩ => by
    have h := bytes_or h1 h2
    obtain ⟨a, k, rfl, -⟩ := h.shape
    exact ⟨a, k, he, h, hb⟩
theorem open_l (v : Value) (p : List (BitVec 8)) (w : World) (hp : Bytes w v p) : Calls Try.prog 12 #[v] w fun e w' =>
    ∃ a k, e = .returned (.tuple #[.slice a (openL p).length k, .int .i64 (openE p)]) ∧ Bytes w' (.slice a (openL p).length k) (openL p) ∧ Below w.heap.size w w' :=
  (open_any v p w hp).mono fun e w' ⟨u, he, h1, h2, hb⟩ => by
    have h := bytes_or h1 h2
    obtain ⟨a, k, rfl, -⟩ := h.shape
    exact ⟨a, k, he, h, hb⟩
theorem refopen_l (v : Value) (p : List (BitVec 8)) (hmax : p.length ≤ 1000) (w : World) (hp : Bytes w v p) : Calls Try.prog 13 #[v] w fun e w' =>
    ∃ a k, e = .returned (.tuple #[.slice a (openL p).length k, .int .i64 (openE p)]) ∧ Bytes w' (.slice a (openL p).length k) (openL p) ∧ Below w.heap.size w w' :=
  (refopen_any v p hmax w hp).mono fun e w' ⟨u, he, h1, h2, hb⟩ => by
    have h := bytes_or h1 h2
    obtain ⟨a, k, rfl, -⟩ := h.shape
    exact ⟨a, k, he, h, hb⟩
theorem same_yes (v1 v2 : Value) (l : List (BitVec 8)) (w : World) (h1 : Bytes w v1 l) (h2 : Bytes w v2 l) : Calls Try.prog 18 #[v1, v2] w fun e w' => e = .returned (.bool true) ∧ w = w' := by
  have := same_any v1 v2 l l w h1 h2
  rwa [decide_eq_true (rfl : l = l)] at this

set_option maxRecDepth 100000 in
set_option maxHeartbeats 1000000 in
theorem tells_in (s : BitVec 32) (b : Bool) (a : Option Addr) (cap : Nat) (bs : List (BitVec 8)) (hl : bs.length ≤ 300) (n : Int) (w0 : World) (w : World) (h : Good w0 w) (hv : Bytes w (.slice a bs.length cap) bs) :
    Calls Try.prog 3 #[.int .u32 (s.toNat : Int), .bool b, .slice a bs.length cap, .int .i64 n] w fun e w' => e = .returned (.bool true) ∧ Good w0 w' := by
  have HV := Lib.hid hv
  have HG := Lib.hid h
  clear hv h
  go_enter Try.func3, Try.ntmps3
  go_wp2_with fail
  refine (close_l _ bs _ HV.out).mono ?_; rintro e w1 ⟨a1, k1, rfl, hu1, hb1⟩
  have HG1 := Lib.hid (HG.out.below hb1)
  have HV1 := Lib.hid (HV.out.below hb1)
  have HU1 := Lib.hid hu1
  clear hb1 hu1
  go_wp2_with fail
  refine (refclose_l _ bs _ HV1.out).mono ?_; rintro e w2 ⟨a2, k2, rfl, hu2, hb2⟩
  have HG2 := Lib.hid (HG1.out.below hb2)
  have HV2 := Lib.hid (HV1.out.below hb2)
  have HU12 := Lib.hid (HU1.out.below hb2)
  have HU2 := Lib.hid hu2
  clear hb2 hu2
  go_wp2_with fail
  refine (open_l _ bs _ HV2.out).mono ?_; rintro e w3 ⟨a3, k3, rfl, hu3, hb3⟩
  have HG3 := Lib.hid (HG2.out.below hb3)
  have HV3 := Lib.hid (HV2.out.below hb3)
  have HU13 := Lib.hid (HU12.out.below hb3)
  have HU23 := Lib.hid (HU2.out.below hb3)
  have HU3 := Lib.hid hu3
  clear hb3 hu3
  go_wp2_with fail
  refine (refopen_l _ bs (by omega) _ HV3.out).mono ?_; rintro e w4 ⟨a4, k4, rfl, hu4, hb4⟩
  have HG4 := Lib.hid (HG3.out.below hb4)
  have HV4 := Lib.hid (HV3.out.below hb4)
  have HU14 := Lib.hid (HU13.out.below hb4)
  have HU24 := Lib.hid (HU23.out.below hb4)
  have HU34 := Lib.hid (HU3.out.below hb4)
  have HU4 := Lib.hid hu4
  clear hb4 hu4 HU1 HU12 HU13 HU2 HU23 HU3
  go_wp2_with (first
    | (go_at_call 14; refine (step_any _ _ _).mono ?_; rintro e w' ⟨rfl, rfl⟩)
    | (go_at_call 15; refine (refstep_any _ _ _).mono ?_; rintro e w' ⟨rfl, rfl⟩))
  refine (sum_any _ bs (by omega) _ HV4.out).mono ?_; rintro e w5 ⟨rfl, hb5⟩
  have HG5 := Lib.hid (HG4.out.below hb5)
  have HV5 := Lib.hid (HV4.out.below hb5)
  have HU15 := Lib.hid (HU14.out.below hb5)
  have HU25 := Lib.hid (HU24.out.below hb5)
  have HU35 := Lib.hid (HU34.out.below hb5)
  have HU45 := Lib.hid (HU4.out.below hb5)
  clear hb5
  go_wp2_with fail
  refine (refsum_v _ bs (by omega) _ HV5.out).mono ?_; rintro e w5' ⟨rfl, rfl⟩
  go_wp2_with fail
  refine (same_yes _ _ _ _ HU15.out HU25.out).mono ?_; rintro e w5' ⟨rfl, rfl⟩
  go_wp2_with fail
  refine (same_yes _ _ _ _ HU35.out HU45.out).mono ?_; rintro e w5' ⟨rfl, rfl⟩
  go_wp2_with (first
    | (go_at_call 19; refine (size_any _ _).mono ?_; rintro e w' ⟨rfl, rfl⟩)
    | (go_at_call 20; refine (refsize_any _ _).mono ?_; rintro e w' ⟨rfl, rfl⟩)
    | (go_at_call 9; refine (wakes_g w0 _ HG5.out).mono ?_; rintro e w' ⟨rfl, hg⟩))
  go_ret
  exact ⟨rfl, hg⟩

theorem tells_walk (x : Int) (hx1 : 0 ≤ x) (hx2 : x ≤ 4294967295) (b : Bool) (v : Value) (bs : List (BitVec 8)) (_hm : ∀ b ∈ bs, b = b) (hn : bs.length ≤ maxLen) (n : Int) (w0 : World) (w : World) (h : Good w0 w) (hv : Bytes w v bs) :
    Calls Try.prog 3 #[.int .u32 x, .bool b, v, .int .i64 n] w fun e w' => e = .returned (.bool true) ∧ Good w0 w' := by
  obtain ⟨a, cap, rfl, -⟩ := hv.shape
  by_cases hl : bs.length ≤ 300
  · have e1 : x = ((BitVec.ofNat 32 x.toNat).toNat : Int) := by rw [BitVec.toNat_ofNat]; omega
    rw [e1]
    exact tells_in _ b a cap bs hl n w0 w h hv
  · clear hv
    unfold maxLen at hn
    go_enter Try.func3, Try.ntmps3
    go_wp2_with (go_at_call 9; refine (wakes_g w0 _ h).mono ?_; rintro e w' ⟨rfl, hg⟩)
    go_ret
    exact ⟨rfl, hg⟩
end Go.Proofs.Ytclohcbhnlnddaa
