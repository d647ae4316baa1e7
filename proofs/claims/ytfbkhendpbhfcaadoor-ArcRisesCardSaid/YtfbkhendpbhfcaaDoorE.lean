/-
  The walks of ArcTells, ArcRound and ArcStarts.
-/
import Derived.Test.YtfbkhendpbhfcaaDoorD
namespace Go.Proofs.YtfbkhendpbhfcaaDoor
open Go.RowKit Go.Shelf

set_option maxRecDepth 100000 in
set_option maxHeartbeats 2000000 in
theorem tells_walk (a x b i : Int) (v : Value) (zs : List Int) (_hm : ∀ z ∈ zs, z = z) (hn : zs.length ≤ maxLen) (w0 w : World) (h : Good w0 w) (hk : Ints w v zs) :
    Calls Tryd.prog 3 #[.int .i64 a, .int .i64 x, .int .i64 b, .int .i64 i, v] w fun e w' => e = .returned (.bool true) ∧ Good w0 w' := by
  unfold maxLen at hn
  obtain ⟨ad, cap, rfl⟩ := hk.shape
  by_cases c : (60 : Int) < (zs.length : Int)
  · clear hk
    go_enter Tryd.func3, Tryd.ntmps3
    go_wp2_with (go_at_call 9; refine (wakes_g w0 _ h).mono ?_; rintro e w' ⟨rfl, hg⟩)
    go_ret
    exact ⟨rfl, hg⟩
  · have HK := Lib.hid hk
    clear hk
    go_enter Tryd.func3, Tryd.ntmps3
    go_wp2_with fail
    refine (own_g w0 _ zs (by omega) _ _ HK.out h).mono ?_; rintro e w1 ⟨rfl, hb1, h1⟩
    have K1 := Lib.hid (HK.out.below hb1)
    clear hb1
    go_wp2_with fail
    refine (refown_g w0 _ zs (by omega) _ _ K1.out h1).mono ?_; rintro e w2 ⟨rfl, hb2, h2⟩
    have K2 := Lib.hid (K1.out.below hb2)
    clear hb2
    go_wp2_with (first
      | (go_at_call 12; refine (place_any _ _).mono ?_; rintro e w' ⟨rfl, rfl⟩)
      | (go_at_call 13; refine (refplace_any _ _).mono ?_; rintro e w' ⟨rfl, rfl⟩)
      | (go_at_call 14; refine (far_any _ _ _).mono ?_; rintro e w' ⟨rfl, rfl⟩)
      | (go_at_call 15; refine (reffar_any _ _ _).mono ?_; rintro e w' ⟨rfl, rfl⟩)
      | (go_at_call 16; refine (in_any _ _ _ _).mono ?_; rintro e w' ⟨rfl, rfl⟩)
      | (go_at_call 17; refine (refin_any _ _ _ _).mono ?_; rintro e w' ⟨rfl, rfl⟩)
      | (go_at_call 18; refine (upto_any _ _ _ _).mono ?_; rintro e w' ⟨rfl, rfl⟩)
      | (go_at_call 19; refine (refupto_any _ _ _ _).mono ?_; rintro e w' ⟨rfl, rfl⟩))
    refine (start_g w0 _ _ _ h2).mono ?_; rintro e w3 ⟨rfl, hb3, h3⟩
    have K3 := Lib.hid (K2.out.below hb3)
    clear hb3
    go_wp2_with (go_at_call 21; refine (refstart_any _ _ _).mono ?_; rintro e w' ⟨rfl, rfl⟩)
    refine (rises_g w0 _ zs (by omega) _ _ K3.out h3).mono ?_; rintro e w4 ⟨rfl, hb4, h4⟩
    have K4 := Lib.hid (K3.out.below hb4)
    clear hb4
    go_wp2_with fail
    refine (refrises_g w0 _ zs (by omega) _ _ K4.out h4).mono ?_; rintro e w5 ⟨rfl, hb5, h5⟩
    go_wp2_with (go_at_call 9; refine (wakes_g w0 _ h5).mono ?_; rintro e w' ⟨rfl, hg⟩)
    go_ret
    exact ⟨rfl, hg⟩

theorem far_self (a : Int) : far a a = 0 := by unfold far; omega
theorem far_from0 (a : Int) : far 0 a = a % 65536 := by unfold far; omega
theorem inB_iff (a x b : Int) : inB a x b = true ↔ 0 < far a x ∧ (far a b = 0 ∨ far a x < far a b) := by
  by_cases h : far a b = 0
  · simp [inB, h]
  · simp [inB, h]
theorem inB_yes {a x b : Int} (h : 0 < far a x ∧ (far a b = 0 ∨ far a x < far a b)) : inB a x b = true := (inB_iff a x b).2 h
theorem inB_no {a x b : Int} (h : ¬ (0 < far a x ∧ (far a b = 0 ∨ far a x < far a b))) : inB a x b = false := by
  cases e : inB a x b with
  | false => rfl
  | true => exact absurd ((inB_iff a x b).1 e) h
theorem far_on (a b c : Int) : far a b + far b c = far a c ∨ far a b + far b c = far a c + 65536 := by unfold far; omega
theorem far_back (a b : Int) : (far a b = 0 ∧ far b a = 0) ∨ far a b + far b a = 65536 := by unfold far; omega

/-- What the walk of ArcRound is told. -/
structure RoundFacts (a b c : Int) : Prop where
  x : 0 ≤ far a b ∧ far a b < 65536
  y : 0 ≤ far b c ∧ far b c < 65536
  z : 0 ≤ far a c ∧ far a c < 65536
  u : 0 ≤ far b a ∧ far b a < 65536
  on : far a b + far b c = far a c ∨ far a b + far b c = far a c + 65536
  back : (far a b = 0 ∧ far b a = 0) ∨ far a b + far b a = 65536
theorem round_facts (a b c : Int) : RoundFacts a b c := ⟨far_bd _ _, far_bd _ _, far_bd _ _, far_bd _ _, far_on _ _ _, far_back _ _⟩

set_option maxRecDepth 100000 in
set_option maxHeartbeats 4000000 in
theorem round_walk (a b c : Int) (w0 w : World) (h : Good w0 w) :
    Calls Tryd.prog 4 #[.int .i64 a, .int .i64 b, .int .i64 c] w fun e w' => e = .returned (.bool true) ∧ Good w0 w' := by
  have F := round_facts a b c
  obtain ⟨⟨hx1, hx2⟩, ⟨hy1, hy2⟩, ⟨hz1, hz2⟩, ⟨hu1, hu2⟩, hon, hback⟩ := F
  have fs := far_self a
  have f0 := far_from0 a
  have d1 : decide (far a b < 0) = false := decide_eq_false (by omega)
  have d2 : decide (65536 ≤ far a b) = false := decide_eq_false (by omega)
  have HON := Lib.hid hon
  have HBACK := Lib.hid hback
  clear hon hback
  rcases HON.out with ho | ho
  · have t1 : (far a b + far b c == far a c) = true := by simpa using ho
    have t1' : (far a b + far b c != far a c) = false := by rw [bne, t1]; rfl
    by_cases cx : far a b = 0
    · have k1 : (far a b == 0) = true := by simpa using cx
      have k1' : (far a b != 0) = false := by rw [bne, k1]; rfl
      have k2 : far b a = 0 := by have := HBACK.out; omega
      by_cases cz : far a c = 0
      · have k3 : (far a c == 0) = true := by simpa using cz
        have k3' : (far a c != 0) = false := by rw [bne, k3]; rfl
        have k4 : inB a c b = false := inB_no (by omega)
        clear cx cz ho
        go_enter Tryd.func4, Tryd.ntmps4
        go_wp2_with (first
          | (go_at_call 12; refine (place_any _ _).mono ?_; rintro e w' ⟨rfl, rfl⟩)
          | (go_at_call 14; refine (far_any _ _ _).mono ?_; rintro e w' ⟨rfl, rfl⟩)
          | (go_at_call 16; refine (in_any _ _ _ _).mono ?_; rintro e w' ⟨rfl, rfl⟩)
          | (go_at_call 18; refine (upto_any _ _ _ _).mono ?_; rintro e w' ⟨rfl, rfl⟩)
          | (go_at_call 9; refine (wakes_g w0 _ (by assumption)).mono ?_; rintro e w' ⟨rfl, hg⟩))
        go_ret
        exact ⟨rfl, by assumption⟩
      · have k3 : (far a c == 0) = false := by simpa using cz
        have k3' : (far a c != 0) = true := by rw [bne, k3]; rfl
        have k4 : inB a c b = true := inB_yes (by omega)
        clear cx cz ho
        go_enter Tryd.func4, Tryd.ntmps4
        go_wp2_with (first
          | (go_at_call 12; refine (place_any _ _).mono ?_; rintro e w' ⟨rfl, rfl⟩)
          | (go_at_call 14; refine (far_any _ _ _).mono ?_; rintro e w' ⟨rfl, rfl⟩)
          | (go_at_call 16; refine (in_any _ _ _ _).mono ?_; rintro e w' ⟨rfl, rfl⟩)
          | (go_at_call 18; refine (upto_any _ _ _ _).mono ?_; rintro e w' ⟨rfl, rfl⟩)
          | (go_at_call 9; refine (wakes_g w0 _ (by assumption)).mono ?_; rintro e w' ⟨rfl, hg⟩))
        go_ret
        exact ⟨rfl, by assumption⟩
    · have k1 : (far a b == 0) = false := by simpa using cx
      have k1' : (far a b != 0) = true := by rw [bne, k1]; rfl
      have hb : far a b + far b a = 65536 := by have := HBACK.out; omega
      have k2 : (far a b + far b a == 65536) = true := by simpa using hb
      have k2' : (far a b + far b a != 65536) = false := by rw [bne, k2]; rfl
      by_cases cy : far b c = 0
      · have k3 : (far b c == 0) = true := by simpa using cy
        have k3' : (far b c != 0) = false := by rw [bne, k3]; rfl
        have k4 : inB a c b = false := inB_no (by omega)
        have k5 : upB a c b = true := by
          unfold upB
          rw [k4, Bool.false_or, (far_zero b c).1 cy]
          simp
        clear cx cy ho hb
        go_enter Tryd.func4, Tryd.ntmps4
        go_wp2_with (first
          | (go_at_call 12; refine (place_any _ _).mono ?_; rintro e w' ⟨rfl, rfl⟩)
          | (go_at_call 14; refine (far_any _ _ _).mono ?_; rintro e w' ⟨rfl, rfl⟩)
          | (go_at_call 16; refine (in_any _ _ _ _).mono ?_; rintro e w' ⟨rfl, rfl⟩)
          | (go_at_call 18; refine (upto_any _ _ _ _).mono ?_; rintro e w' ⟨rfl, rfl⟩)
          | (go_at_call 9; refine (wakes_g w0 _ (by assumption)).mono ?_; rintro e w' ⟨rfl, hg⟩))
        go_ret
        exact ⟨rfl, by assumption⟩
      · have k3 : (far b c == 0) = false := by simpa using cy
        have k3' : (far b c != 0) = true := by rw [bne, k3]; rfl
        by_cases cz : far a c = 0
        · have k4 : (far a c == 0) = true := by simpa using cz
          have k4' : (far a c != 0) = false := by rw [bne, k4]; rfl
          have k5 : inB a c b = false := inB_no (by omega)
          have k6 : upB a c b = false := by
            unfold upB
            rw [k5, Bool.false_or, beq_eq_false_iff_ne]
            exact fun e => cy ((far_zero b c).2 e.symm)
          clear cx cy cz ho hb
          go_enter Tryd.func4, Tryd.ntmps4
          go_wp2_with (first
            | (go_at_call 12; refine (place_any _ _).mono ?_; rintro e w' ⟨rfl, rfl⟩)
            | (go_at_call 14; refine (far_any _ _ _).mono ?_; rintro e w' ⟨rfl, rfl⟩)
            | (go_at_call 16; refine (in_any _ _ _ _).mono ?_; rintro e w' ⟨rfl, rfl⟩)
            | (go_at_call 18; refine (upto_any _ _ _ _).mono ?_; rintro e w' ⟨rfl, rfl⟩)
            | (go_at_call 9; refine (wakes_g w0 _ (by assumption)).mono ?_; rintro e w' ⟨rfl, hg⟩))
          go_ret
          exact ⟨rfl, by assumption⟩
        · have k4 : (far a c == 0) = false := by simpa using cz
          have k4' : (far a c != 0) = true := by rw [bne, k4]; rfl
          have k5 : inB a b c = true := inB_yes (by omega)
          have k6 : inB a c b = false := inB_no (by omega)
          have k7 : inB b c a = true := inB_yes (by omega)
          clear cx cy cz ho hb
          go_enter Tryd.func4, Tryd.ntmps4
          go_wp2_with (first
            | (go_at_call 12; refine (place_any _ _).mono ?_; rintro e w' ⟨rfl, rfl⟩)
            | (go_at_call 14; refine (far_any _ _ _).mono ?_; rintro e w' ⟨rfl, rfl⟩)
            | (go_at_call 16; refine (in_any _ _ _ _).mono ?_; rintro e w' ⟨rfl, rfl⟩)
            | (go_at_call 18; refine (upto_any _ _ _ _).mono ?_; rintro e w' ⟨rfl, rfl⟩)
            | (go_at_call 9; refine (wakes_g w0 _ (by assumption)).mono ?_; rintro e w' ⟨rfl, hg⟩))
          go_ret
          exact ⟨rfl, by assumption⟩
  · have t1 : (far a b + far b c == far a c) = false := by rw [beq_eq_false_iff_ne]; omega
    have t1' : (far a b + far b c != far a c) = true := by rw [bne, t1]; rfl
    have t2 : (far a b + far b c == far a c + 65536) = true := by simpa using ho
    have t2' : (far a b + far b c != far a c + 65536) = false := by rw [bne, t2]; rfl
    by_cases cx : far a b = 0
    · have k1 : (far a b == 0) = true := by simpa using cx
      have k1' : (far a b != 0) = false := by rw [bne, k1]; rfl
      have k2 : far b a = 0 := by have := HBACK.out; omega
      by_cases cz : far a c = 0
      · have k3 : (far a c == 0) = true := by simpa using cz
        have k3' : (far a c != 0) = false := by rw [bne, k3]; rfl
        have k4 : inB a c b = false := inB_no (by omega)
        clear cx cz ho
        go_enter Tryd.func4, Tryd.ntmps4
        go_wp2_with (first
          | (go_at_call 12; refine (place_any _ _).mono ?_; rintro e w' ⟨rfl, rfl⟩)
          | (go_at_call 14; refine (far_any _ _ _).mono ?_; rintro e w' ⟨rfl, rfl⟩)
          | (go_at_call 16; refine (in_any _ _ _ _).mono ?_; rintro e w' ⟨rfl, rfl⟩)
          | (go_at_call 18; refine (upto_any _ _ _ _).mono ?_; rintro e w' ⟨rfl, rfl⟩)
          | (go_at_call 9; refine (wakes_g w0 _ (by assumption)).mono ?_; rintro e w' ⟨rfl, hg⟩))
        go_ret
        exact ⟨rfl, by assumption⟩
      · have k3 : (far a c == 0) = false := by simpa using cz
        have k3' : (far a c != 0) = true := by rw [bne, k3]; rfl
        have k4 : inB a c b = true := inB_yes (by omega)
        clear cx cz ho
        go_enter Tryd.func4, Tryd.ntmps4
        go_wp2_with (first
          | (go_at_call 12; refine (place_any _ _).mono ?_; rintro e w' ⟨rfl, rfl⟩)
          | (go_at_call 14; refine (far_any _ _ _).mono ?_; rintro e w' ⟨rfl, rfl⟩)
          | (go_at_call 16; refine (in_any _ _ _ _).mono ?_; rintro e w' ⟨rfl, rfl⟩)
          | (go_at_call 18; refine (upto_any _ _ _ _).mono ?_; rintro e w' ⟨rfl, rfl⟩)
          | (go_at_call 9; refine (wakes_g w0 _ (by assumption)).mono ?_; rintro e w' ⟨rfl, hg⟩))
        go_ret
        exact ⟨rfl, by assumption⟩
    · have k1 : (far a b == 0) = false := by simpa using cx
      have k1' : (far a b != 0) = true := by rw [bne, k1]; rfl
      have hb : far a b + far b a = 65536 := by have := HBACK.out; omega
      have k2 : (far a b + far b a == 65536) = true := by simpa using hb
      have k2' : (far a b + far b a != 65536) = false := by rw [bne, k2]; rfl
      by_cases cy : far b c = 0
      · have k3 : (far b c == 0) = true := by simpa using cy
        have k3' : (far b c != 0) = false := by rw [bne, k3]; rfl
        have k4 : inB a c b = false := inB_no (by omega)
        have k5 : upB a c b = true := by
          unfold upB
          rw [k4, Bool.false_or, (far_zero b c).1 cy]
          simp
        clear cx cy ho hb
        go_enter Tryd.func4, Tryd.ntmps4
        go_wp2_with (first
          | (go_at_call 12; refine (place_any _ _).mono ?_; rintro e w' ⟨rfl, rfl⟩)
          | (go_at_call 14; refine (far_any _ _ _).mono ?_; rintro e w' ⟨rfl, rfl⟩)
          | (go_at_call 16; refine (in_any _ _ _ _).mono ?_; rintro e w' ⟨rfl, rfl⟩)
          | (go_at_call 18; refine (upto_any _ _ _ _).mono ?_; rintro e w' ⟨rfl, rfl⟩)
          | (go_at_call 9; refine (wakes_g w0 _ (by assumption)).mono ?_; rintro e w' ⟨rfl, hg⟩))
        go_ret
        exact ⟨rfl, by assumption⟩
      · have k3 : (far b c == 0) = false := by simpa using cy
        have k3' : (far b c != 0) = true := by rw [bne, k3]; rfl
        by_cases cz : far a c = 0
        · have k4 : (far a c == 0) = true := by simpa using cz
          have k4' : (far a c != 0) = false := by rw [bne, k4]; rfl
          have k5 : inB a c b = false := inB_no (by omega)
          have k6 : upB a c b = false := by
            unfold upB
            rw [k5, Bool.false_or, beq_eq_false_iff_ne]
            exact fun e => cy ((far_zero b c).2 e.symm)
          clear cx cy cz ho hb
          go_enter Tryd.func4, Tryd.ntmps4
          go_wp2_with (first
            | (go_at_call 12; refine (place_any _ _).mono ?_; rintro e w' ⟨rfl, rfl⟩)
            | (go_at_call 14; refine (far_any _ _ _).mono ?_; rintro e w' ⟨rfl, rfl⟩)
            | (go_at_call 16; refine (in_any _ _ _ _).mono ?_; rintro e w' ⟨rfl, rfl⟩)
            | (go_at_call 18; refine (upto_any _ _ _ _).mono ?_; rintro e w' ⟨rfl, rfl⟩)
            | (go_at_call 9; refine (wakes_g w0 _ (by assumption)).mono ?_; rintro e w' ⟨rfl, hg⟩))
          go_ret
          exact ⟨rfl, by assumption⟩
        · have k4 : (far a c == 0) = false := by simpa using cz
          have k4' : (far a c != 0) = true := by rw [bne, k4]; rfl
          have k5 : inB a b c = false := inB_no (by omega)
          have k6 : inB a c b = true := inB_yes (by omega)
          have k7 : inB b c a = false := inB_no (by omega)
          clear cx cy cz ho hb
          go_enter Tryd.func4, Tryd.ntmps4
          go_wp2_with (first
            | (go_at_call 12; refine (place_any _ _).mono ?_; rintro e w' ⟨rfl, rfl⟩)
            | (go_at_call 14; refine (far_any _ _ _).mono ?_; rintro e w' ⟨rfl, rfl⟩)
            | (go_at_call 16; refine (in_any _ _ _ _).mono ?_; rintro e w' ⟨rfl, rfl⟩)
            | (go_at_call 18; refine (upto_any _ _ _ _).mono ?_; rintro e w' ⟨rfl, rfl⟩)
            | (go_at_call 9; refine (wakes_g w0 _ (by assumption)).mono ?_; rintro e w' ⟨rfl, hg⟩))
          go_ret
          exact ⟨rfl, by assumption⟩

end Go.Proofs.YtfbkhendpbhfcaaDoor
