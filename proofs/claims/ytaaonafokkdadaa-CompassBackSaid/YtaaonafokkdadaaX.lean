/-
  The law CompassBack: the walk.
-/
import Derived.Test.YtaaonafokkdadaaU
namespace Go.Proofs.Ytaaonafokkdadaa
open Go Go.RowKit Go.Shelf
attribute [local go_sem] Oper.semAt_some run_store_complex unary_neg_float unary_neg_complex

set_option maxRecDepth 100000 in
set_option maxHeartbeats 1000000 in
theorem back_walk (p q : Int) (x : Nat) (hx : x < 18446744073709551616) (y : Nat) (hy : y < 18446744073709551616) (w0 w : World) (h : Good w0 w) : Calls Try.prog 4 #[.int .i64 p, .int .i64 q, .float .f64 x, .float .f64 y] w fun e w' => e = .returned (.bool true) ∧ Good w0 w' := by
  obtain ⟨t1, t2, P, hP, -, p0, p1⟩ := rest_facts p
  obtain ⟨u1, u2, Q, hQ, -, q0, q1⟩ := rest_facts q
  have HG := Lib.hid h
  have HX := Lib.hid (And.intro hx hy)
  clear h hx hy
  go_enter Try.func4, Try.ntmps4
  go_wp2_with fail
  refine (at_pl P p0 p1 _).mono ?_; rintro e w1 ⟨⟨a, b, rfl, hp⟩, hb⟩
  have HP := Lib.hid hp
  have G1 := Lib.hid (HG.out.below hb)
  clear hp hb HG
  go_wp2_with fail
  refine (at_pl Q q0 q1 _).mono ?_; rintro e w2 ⟨⟨c, d, rfl, hp⟩, hb⟩
  have HQ := Lib.hid hp
  have G2 := Lib.hid (G1.out.below hb)
  clear hp hb G1
  go_wp2_with fail
  refine (of_pl HP.out _).mono ?_; rintro e w3 ⟨rfl, hb⟩
  have G3 := Lib.hid (G2.out.below hb)
  clear hb G2
  have hs := pt_sum P p0 p1
  obtain ⟨r1, hmax1, fr1⟩ := size_fl HP.out.re (by omega)
  obtain ⟨r2, hmax2, fr2⟩ := size_fl HP.out.im (by omega)
  obtain ⟨r3, hadd, fr3⟩ := fr1.add fr2 (by omega)
  have o1 := ord fr3 quarter_Fl
  rw [cmp_eq (by omega)] at o1
  have s2 := fun ts t w => hmax1 Try.prog ts t w
  have s3 := fun ts t w => hmax2 Try.prog ts t w
  have s4 := fun w => run_float_arith (P := Try.prog) w .add 22 .f64 r1 r2 r3 hadd
  clear hs hmax1 hmax2 hadd fr1 fr2 fr3
  have heq := HP.out.eq HQ.out
  by_cases hpq : P = Q
  · subst hpq
    obtain ⟨e1, e2⟩ := HP.out.same HQ.out
    clear heq
    go_wp2_with fail
    refine (right_pl HP.out _).mono ?_; rintro e w4 ⟨rfl, rfl⟩
    clear e1 e2
    by_cases hpt : Pt x y
    · obtain ⟨m, hm⟩ := hpt.pl
      have HM := Lib.hid hm
      clear hm hpt
      go_wp2_with fail
      refine (of_pl HM.out _).mono ?_; rintro e w5 ⟨rfl, hb⟩
      have G5 := Lib.hid (G3.out.below hb)
      clear hb G3
      go_wp2_with fail
      refine (at_pl m HM.out.low HM.out.high _).mono ?_; rintro e w6 ⟨⟨c6, d6, rfl, hp⟩, hb⟩
      obtain ⟨f1, f2⟩ := hp.same HM.out
      have G6 := Lib.hid (G5.out.below hb)
      clear hb G5 hp
      go_wp2_with fail
      refine (wakes_any _).mono ?_; rintro e w9 ⟨rfl, hb⟩
      have G9 := Lib.hid (G6.out.below hb)
      clear hb G6
      go_wp2
      go_ret
      exact ⟨rfl, G9.out⟩
    · have HN := Lib.hid (fun w => of_not HX.out.1 HX.out.2 hpt w)
      clear hpt
      go_wp2_with fail
      refine (HN.out _).mono ?_; rintro e w5 ⟨rfl, hb⟩
      have G5 := Lib.hid (G3.out.below hb)
      clear hb G3
      go_wp2_with fail
      refine (wakes_any _).mono ?_; rintro e w9 ⟨rfl, hb⟩
      have G9 := Lib.hid (G5.out.below hb)
      clear hb G5
      go_wp2
      go_ret
      exact ⟨rfl, G9.out⟩
  · rw [decide_eq_false hpq] at heq
    have e1 : (P == Q) = false := by rw [beq_eq_false_iff_ne]; exact hpq
    clear hpq
    go_wp2_with fail
    refine (right_pl HP.out _).mono ?_; rintro e w4 ⟨rfl, rfl⟩
    clear e1 heq
    by_cases hpt : Pt x y
    · obtain ⟨m, hm⟩ := hpt.pl
      have HM := Lib.hid hm
      clear hm hpt
      go_wp2_with fail
      refine (of_pl HM.out _).mono ?_; rintro e w5 ⟨rfl, hb⟩
      have G5 := Lib.hid (G3.out.below hb)
      clear hb G3
      go_wp2_with fail
      refine (at_pl m HM.out.low HM.out.high _).mono ?_; rintro e w6 ⟨⟨c6, d6, rfl, hp⟩, hb⟩
      obtain ⟨f1, f2⟩ := hp.same HM.out
      have G6 := Lib.hid (G5.out.below hb)
      clear hb G5 hp
      go_wp2_with fail
      refine (wakes_any _).mono ?_; rintro e w9 ⟨rfl, hb⟩
      have G9 := Lib.hid (G6.out.below hb)
      clear hb G6
      go_wp2
      go_ret
      exact ⟨rfl, G9.out⟩
    · have HN := Lib.hid (fun w => of_not HX.out.1 HX.out.2 hpt w)
      clear hpt
      go_wp2_with fail
      refine (HN.out _).mono ?_; rintro e w5 ⟨rfl, hb⟩
      have G5 := Lib.hid (G3.out.below hb)
      clear hb G3
      go_wp2_with fail
      refine (wakes_any _).mono ?_; rintro e w9 ⟨rfl, hb⟩
      have G9 := Lib.hid (G5.out.below hb)
      clear hb G5
      go_wp2
      go_ret
      exact ⟨rfl, G9.out⟩
end Go.Proofs.Ytaaonafokkdadaa
