/-
  The law CompassNot: the walk.
-/
import Derived.Test.YtaaonafokkdadaaW
namespace Go.Proofs.Ytaaonafokkdadaa
open Go Go.RowKit Go.Shelf
attribute [local go_sem] Oper.semAt_some run_store_complex unary_neg_float unary_neg_complex

set_option maxRecDepth 100000 in
set_option maxHeartbeats 4000000 in
theorem not_walk (p : Int) (x : Nat) (y : Nat) (w0 w : World) (h : Good w0 w) : Calls Try.prog 7 #[.int .i64 p, .float .f64 x, .float .f64 y] w fun e w' => e = .returned (.bool true) ∧ Good w0 w' := by
  obtain ⟨t1, t2, P, hP, -, p0, p1⟩ := rest_facts p
  have HG := Lib.hid h
  have z0 := zero_same
  clear h
  go_enter Try.func7, Try.ntmps7
  go_wp2_with fail
  refine (at_pl P p0 p1 _).mono ?_; rintro e w1 ⟨⟨a, b, rfl, hp⟩, hb⟩
  obtain ⟨f1, g1, hd1, ha1⟩ := add_any a x hp.re.lt
  obtain ⟨f2, g2, hd2, ha2⟩ := add_any b y hp.im.lt
  have r1 := fun w => ha1 Try.prog w
  have r2 := fun w => ha2 Try.prog w
  have G2 : Hid (Good w0 (g2 (g1 w1))) := Lib.hid (hd2.good (hd1.good (HG.out.below hb)))
  have L1 : Hid (f1 w1 < 18446744073709551616) := Lib.hid (hd1.lt _)
  have L2 : Hid (f2 (g1 w1) < 18446744073709551616) := Lib.hid (hd2.lt _)
  clear hp hb HG ha1 ha2 hd1 hd2
  go_wp2_with fail
  clear r1 r2
  generalize f1 w1 = A at *
  generalize f2 (g1 w1) = B at *
  generalize g2 (g1 w1) = w2 at *
  by_cases hpt : Pt A B
  · obtain ⟨m, hm⟩ := hpt.pl
    have hs := pt_sum m hm.low hm.high
    have HM := Lib.hid hm
    obtain ⟨q1, hmax1, fr1⟩ := size_fl hm.re (by omega)
    obtain ⟨q2, hmax2, fr2⟩ := size_fl hm.im (by omega)
    obtain ⟨q3, hadd, fr3⟩ := fr1.add fr2 (by omega)
    have o1 := ord fr3 quarter_Fl
    rw [cmp_eq (by omega)] at o1
    have s2 := fun ts t w => hmax1 Try.prog ts t w
    have s3 := fun ts t w => hmax2 Try.prog ts t w
    have s4 := fun w => run_float_arith (P := Try.prog) w .add 22 .f64 q1 q2 q3 hadd
    have W1 := Lib.hid (lawwhole_yes A _ hm.re (by omega) (by omega))
    have W2 := Lib.hid (lawwhole_yes B _ hm.im (by omega) (by omega))
    clear hs hmax1 hmax2 hadd fr1 fr2 fr3 hm hpt
    refine (of_pl HM.out _).mono ?_; rintro e w3 ⟨rfl, hb⟩
    have G3 := Lib.hid (G2.out.below hb)
    clear hb G2
    go_wp2_with fail
    refine (right_pl HM.out _).mono ?_; rintro e w4 ⟨rfl, rfl⟩
    go_wp2_with fail
    refine (W1.out _).mono ?_; rintro e w4 ⟨rfl, rfl⟩
    go_wp2_with fail
    refine (W2.out _).mono ?_; rintro e w4 ⟨rfl, rfl⟩
    go_wp2_with fail
    refine (wakes_any _).mono ?_; rintro e w9 ⟨rfl, hb⟩
    have G9 := Lib.hid (G3.out.below hb)
    clear hb G3
    go_wp2
    go_ret
    exact ⟨rfl, G9.out⟩
  · have HO := Lib.hid (fun w => of_not L1.out L2.out hpt w)
    have HR := Lib.hid (fun w => right_not _ _ L1.out L2.out hpt w)
    have HT := Lib.hid (fun w => turned_not L1.out L2.out hpt 1 w)
    have HN := Lib.hid hpt
    clear hpt
    refine (HO.out _).mono ?_; rintro e w3 ⟨rfl, hb⟩
    have G3 := Lib.hid (G2.out.below hb)
    clear hb G2
    by_cases wa : ∃ n, Fl A n ∧ -20000 ≤ n ∧ n ≤ 20000
    · obtain ⟨n, fa, na⟩ := wa
      by_cases wb : ∃ n, Fl B n ∧ -20000 ≤ n ∧ n ≤ 20000
      · obtain ⟨m, fb, nb⟩ := wb
        have hs : n.natAbs + m.natAbs ≠ 16384 := fun e => HN.out ⟨n, m, fa, fb, e⟩
        obtain ⟨q1, hmax1, fr1⟩ := size_fl fa (by omega)
        obtain ⟨q2, hmax2, fr2⟩ := size_fl fb (by omega)
        obtain ⟨q3, hadd, fr3⟩ := fr1.add fr2 (by omega)
        have o1 := ord fr3 quarter_Fl
        have s2 := fun ts t w => hmax1 Try.prog ts t w
        have s3 := fun ts t w => hmax2 Try.prog ts t w
        have s4 := fun w => run_float_arith (P := Try.prog) w .add 22 .f64 q1 q2 q3 hadd
        have o2 : (FloatKind.f64.format.order q3 4670232813583204352 == some .eq) = false := by
          rw [o1]
          rcases Int.lt_or_gt_of_ne (show (n.natAbs : Int) + (m.natAbs : Int) ≠ 16384 by omega) with c | c
          · rw [cmp_lt c]; rfl
          · rw [cmp_gt c]; rfl
        clear hs hmax1 hmax2 hadd fr1 fr2 fr3 o1 fa fb na nb
        go_wp2_with fail
        refine (HR.out _).mono ?_; rintro e w4 ⟨rfl, rfl⟩
        go_wp2_with fail
        refine (HT.out _).mono ?_; rintro e w8 ⟨rfl, hb⟩
        have G8 := Lib.hid (Good.below G3.out hb)
        clear hb G3
        go_wp2_with fail
        refine (wakes_any _).mono ?_; rintro e w9 ⟨rfl, hb⟩
        have G9 := Lib.hid (G8.out.below hb)
        clear hb G8
        go_wp2
        go_ret
        exact ⟨rfl, G9.out⟩
      · have WA := Lib.hid (lawwhole_yes A n fa na.1 na.2)
        have WB := Lib.hid (lawwhole_no B L2.out wb)
        clear fa na wb
        obtain ⟨f3, g3, hd3, hm3⟩ := max_any A (ng A) L1.out (ng_lt _ L1.out)
        obtain ⟨f4, g4, hd4, hm4⟩ := max_any B (ng B) L2.out (ng_lt _ L2.out)
        obtain ⟨f5, g5, hd5, hm5⟩ := add_any (f3 w3) (f4 (g3 w3)) (hd3.lt _)
        have s3 := fun ts t w => hm3 Try.prog ts t w
        have s4 := fun ts t w => hm4 Try.prog ts t w
        have s5 := fun w => hm5 Try.prog w
        have G5 : Hid (Good w0 (g5 (g4 (g3 w3)))) := Lib.hid (hd5.good (hd4.good (hd3.good G3.out)))
        clear hm3 hm4 hm5 hd3 hd4 hd5 G3
        have hR : ∃ R, (FloatKind.f64.format.order (f5 (g4 (g3 w3))) 4670232813583204352 == some .eq) = R := ⟨_, rfl⟩
        obtain ⟨R, hR⟩ := hR
        cases R with
        | false =>
          go_wp2_with fail
          refine (HR.out _).mono ?_; rintro e w4 ⟨rfl, rfl⟩
          go_wp2_with fail
          refine (HT.out _).mono ?_; rintro e w8 ⟨rfl, hb⟩
          have G8 := Lib.hid (Good.below G5.out hb)
          clear hb G5
          go_wp2_with fail
          refine (wakes_any _).mono ?_; rintro e w9 ⟨rfl, hb⟩
          have G9 := Lib.hid (G8.out.below hb)
          clear hb G8
          go_wp2
          go_ret
          exact ⟨rfl, G9.out⟩
        | true =>
          go_wp2_with fail
          refine (HR.out _).mono ?_; rintro e w4 ⟨rfl, rfl⟩
          go_wp2_with fail
          refine (WA.out _).mono ?_; rintro e w4 ⟨rfl, rfl⟩
          go_wp2_with fail
          refine (WB.out _).mono ?_; rintro e w4 ⟨rfl, rfl⟩
          go_wp2_with fail
          refine (HT.out _).mono ?_; rintro e w8 ⟨rfl, hb⟩
          have G8 := Lib.hid (Good.below G5.out hb)
          clear hb G5
          go_wp2_with fail
          refine (wakes_any _).mono ?_; rintro e w9 ⟨rfl, hb⟩
          have G9 := Lib.hid (G8.out.below hb)
          clear hb G8
          go_wp2
          go_ret
          exact ⟨rfl, G9.out⟩
    · have WA := Lib.hid (lawwhole_no A L1.out wa)
      clear wa
      obtain ⟨f3, g3, hd3, hm3⟩ := max_any A (ng A) L1.out (ng_lt _ L1.out)
      obtain ⟨f4, g4, hd4, hm4⟩ := max_any B (ng B) L2.out (ng_lt _ L2.out)
      obtain ⟨f5, g5, hd5, hm5⟩ := add_any (f3 w3) (f4 (g3 w3)) (hd3.lt _)
      have s3 := fun ts t w => hm3 Try.prog ts t w
      have s4 := fun ts t w => hm4 Try.prog ts t w
      have s5 := fun w => hm5 Try.prog w
      have G5 : Hid (Good w0 (g5 (g4 (g3 w3)))) := Lib.hid (hd5.good (hd4.good (hd3.good G3.out)))
      clear hm3 hm4 hm5 hd3 hd4 hd5 G3
      have hR : ∃ R, (FloatKind.f64.format.order (f5 (g4 (g3 w3))) 4670232813583204352 == some .eq) = R := ⟨_, rfl⟩
      obtain ⟨R, hR⟩ := hR
      cases R with
      | false =>
        go_wp2_with fail
        refine (HR.out _).mono ?_; rintro e w4 ⟨rfl, rfl⟩
        go_wp2_with fail
        refine (HT.out _).mono ?_; rintro e w8 ⟨rfl, hb⟩
        have G8 := Lib.hid (Good.below G5.out hb)
        clear hb G5
        go_wp2_with fail
        refine (wakes_any _).mono ?_; rintro e w9 ⟨rfl, hb⟩
        have G9 := Lib.hid (G8.out.below hb)
        clear hb G8
        go_wp2
        go_ret
        exact ⟨rfl, G9.out⟩
      | true =>
        go_wp2_with fail
        refine (HR.out _).mono ?_; rintro e w4 ⟨rfl, rfl⟩
        go_wp2_with fail
        refine (WA.out _).mono ?_; rintro e w4 ⟨rfl, rfl⟩
        go_wp2_with fail
        refine (HT.out _).mono ?_; rintro e w8 ⟨rfl, hb⟩
        have G8 := Lib.hid (Good.below G5.out hb)
        clear hb G5
        go_wp2_with fail
        refine (wakes_any _).mono ?_; rintro e w9 ⟨rfl, hb⟩
        have G9 := Lib.hid (G8.out.below hb)
        clear hb G8
        go_wp2
        go_ret
        exact ⟨rfl, G9.out⟩
end Go.Proofs.Ytaaonafokkdadaa
