/-
  The law CompassTells: the walk.
-/
import Derived.Test.YtaaonafokkdadaaU
namespace Go.Proofs.Ytaaonafokkdadaa
open Go Go.RowKit Go.Shelf
attribute [local go_sem] Oper.semAt_some run_store_complex unary_neg_float unary_neg_complex

set_option maxRecDepth 100000 in
set_option maxHeartbeats 1000000 in
theorem tells_yy (p q : Int) (x : Nat) (hx : x < 18446744073709551616) (y : Nat) (hy : y < 18446744073709551616) (h0 : 0 ≤ p) (h1 : p < 65536) (m : Int) (hm : Pl x y m) (w0 w : World) (h : Good w0 w) : Calls Try.prog 3 #[.int .i64 p, .int .i64 q, .float .f64 x, .float .f64 y] w fun e w' => e = .returned (.bool true) ∧ Good w0 w' := by
  have z0 := zero_same
  have G0 := Lib.hid h
  have HX := Lib.hid (And.intro hx hy)
  have HM := Lib.hid hm
  clear h hx hy hm
  go_enter Try.func3, Try.ntmps3
  go_wp2_with fail
  refine (at_pl p h0 h1 _).mono ?_; rintro e w1 ⟨⟨a, b, rfl, hp⟩, hb⟩
  have HA := Lib.hid hp
  clear hp
  have G1 := Lib.hid (G0.out.below hb)
  clear hb G0
  go_wp2_with fail
  refine (refat_pl p h0 h1 _).mono ?_; rintro e w2 ⟨⟨c, d, rfl, hp⟩, rfl⟩
  have HB := Lib.hid hp
  obtain ⟨s1, s2⟩ := HA.out.same HB.out
  clear hp
  go_wp2_with fail
  refine (of_pl HM.out _).mono ?_; rintro e w3 ⟨rfl, hb⟩
  have G3 := Lib.hid (G1.out.below hb)
  clear hb G1
  go_wp2_with fail
  refine (refof_pl HM.out _).mono ?_; rintro e w4 ⟨rfl, rfl⟩
  go_wp2_with fail
  refine (right_pl HM.out _).mono ?_; rintro e w5 ⟨rfl, rfl⟩
  go_wp2_with fail
  refine (refright_pl HM.out _).mono ?_; rintro e w6 ⟨rfl, rfl⟩
  go_wp2_with fail
  refine (turned_pl HM.out q _).mono ?_; rintro e w7 ⟨⟨a5, b5, rfl, hp5⟩, hb⟩
  have G7 := Lib.hid (G3.out.below hb)
  clear hb G3
  go_wp2_with fail
  refine (refturned_pl HM.out q _).mono ?_; rintro e w8 ⟨⟨a6, b6, rfl, hp6⟩, rfl⟩
  obtain ⟨s5, s6⟩ := hp5.same hp6
  clear hp5 hp6
  go_wp2_with fail
  refine (turned_pl HB.out q _).mono ?_; rintro e w9 ⟨⟨a7, b7, rfl, hp7⟩, hb⟩
  have G9 := Lib.hid (G7.out.below hb)
  clear hb G7
  go_wp2_with fail
  refine (refturned_pl HB.out q _).mono ?_; rintro e w10 ⟨⟨a8, b8, rfl, hp8⟩, rfl⟩
  obtain ⟨s7, s8⟩ := hp7.same hp8
  clear hp7 hp8
  go_wp2_with fail
  refine (place_any p _).mono ?_; rintro e w11 ⟨rfl, rfl⟩
  go_wp2_with fail
  refine (refplace_any p _).mono ?_; rintro e w12 ⟨rfl, rfl⟩
  go_wp2_with fail
  refine (quarter_any p _).mono ?_; rintro e w13 ⟨rfl, rfl⟩
  go_wp2_with fail
  refine (refquarter_any p _).mono ?_; rintro e w14 ⟨rfl, rfl⟩
  go_wp2_with fail
  refine (wakes_any _).mono ?_; rintro e w15 ⟨rfl, hb⟩
  have G15 := Lib.hid (G9.out.below hb)
  clear hb G9
  go_wp2
  go_ret
  exact ⟨rfl, G15.out⟩
set_option maxRecDepth 100000 in
set_option maxHeartbeats 1000000 in
theorem tells_yn (p q : Int) (x : Nat) (hx : x < 18446744073709551616) (y : Nat) (hy : y < 18446744073709551616) (h0 : 0 ≤ p) (h1 : p < 65536) (hpt : ¬ Pt x y) (w0 w : World) (h : Good w0 w) : Calls Try.prog 3 #[.int .i64 p, .int .i64 q, .float .f64 x, .float .f64 y] w fun e w' => e = .returned (.bool true) ∧ Good w0 w' := by
  have z0 := zero_same
  have G0 := Lib.hid h
  have HX := Lib.hid (And.intro hx hy)
  have HM := Lib.hid hpt
  clear h hx hy hpt
  go_enter Try.func3, Try.ntmps3
  go_wp2_with fail
  refine (at_pl p h0 h1 _).mono ?_; rintro e w1 ⟨⟨a, b, rfl, hp⟩, hb⟩
  have HA := Lib.hid hp
  clear hp
  have G1 := Lib.hid (G0.out.below hb)
  clear hb G0
  go_wp2_with fail
  refine (refat_pl p h0 h1 _).mono ?_; rintro e w2 ⟨⟨c, d, rfl, hp⟩, rfl⟩
  have HB := Lib.hid hp
  obtain ⟨s1, s2⟩ := HA.out.same HB.out
  clear hp
  go_wp2_with fail
  refine (of_not HX.out.1 HX.out.2 HM.out _).mono ?_; rintro e w3 ⟨rfl, hb⟩
  have G3 := Lib.hid (G1.out.below hb)
  clear hb G1
  go_wp2_with fail
  refine (refof_not HX.out.1 HX.out.2 HM.out _).mono ?_; rintro e w4 ⟨rfl, rfl⟩
  go_wp2_with fail
  refine (right_not _ _ HX.out.1 HX.out.2 HM.out _).mono ?_; rintro e w5 ⟨rfl, rfl⟩
  go_wp2_with fail
  refine (refright_not HX.out.1 HX.out.2 HM.out _).mono ?_; rintro e w6 ⟨rfl, rfl⟩
  go_wp2_with fail
  refine (turned_not HX.out.1 HX.out.2 HM.out q _).mono ?_; rintro e w7 ⟨rfl, hb⟩
  have G7 := Lib.hid (G3.out.below hb)
  clear hb G3
  go_wp2_with fail
  refine (refturned_not HX.out.1 HX.out.2 HM.out q _).mono ?_; rintro e w8 ⟨rfl, rfl⟩
  go_wp2_with fail
  refine (turned_pl HB.out q _).mono ?_; rintro e w9 ⟨⟨a7, b7, rfl, hp7⟩, hb⟩
  have G9 := Lib.hid (G7.out.below hb)
  clear hb G7
  go_wp2_with fail
  refine (refturned_pl HB.out q _).mono ?_; rintro e w10 ⟨⟨a8, b8, rfl, hp8⟩, rfl⟩
  obtain ⟨s7, s8⟩ := hp7.same hp8
  clear hp7 hp8
  go_wp2_with fail
  refine (place_any p _).mono ?_; rintro e w11 ⟨rfl, rfl⟩
  go_wp2_with fail
  refine (refplace_any p _).mono ?_; rintro e w12 ⟨rfl, rfl⟩
  go_wp2_with fail
  refine (quarter_any p _).mono ?_; rintro e w13 ⟨rfl, rfl⟩
  go_wp2_with fail
  refine (refquarter_any p _).mono ?_; rintro e w14 ⟨rfl, rfl⟩
  go_wp2_with fail
  refine (wakes_any _).mono ?_; rintro e w15 ⟨rfl, hb⟩
  have G15 := Lib.hid (G9.out.below hb)
  clear hb G9
  go_wp2
  go_ret
  exact ⟨rfl, G15.out⟩
set_option maxRecDepth 100000 in
set_option maxHeartbeats 1000000 in
theorem tells_ny (p q : Int) (x : Nat) (hx : x < 18446744073709551616) (y : Nat) (hy : y < 18446744073709551616) (hn : p < 0 ∨ 65536 ≤ p) (m : Int) (hm : Pl x y m) (w0 w : World) (h : Good w0 w) : Calls Try.prog 3 #[.int .i64 p, .int .i64 q, .float .f64 x, .float .f64 y] w fun e w' => e = .returned (.bool true) ∧ Good w0 w' := by
  have z0 := zero_same
  have G0 := Lib.hid h
  have HX := Lib.hid (And.intro hx hy)
  have HM := Lib.hid hm
  have HF := Lib.hid hn
  clear h hx hy hm hn
  go_enter Try.func3, Try.ntmps3
  go_wp2_with fail
  refine (at_no p HF.out _).mono ?_; rintro e w1 ⟨rfl, hb⟩
  have G1 := Lib.hid (G0.out.below hb)
  clear hb G0
  go_wp2_with fail
  refine (refat_no p HF.out _).mono ?_; rintro e w2 ⟨rfl, rfl⟩
  go_wp2_with fail
  refine (of_pl HM.out _).mono ?_; rintro e w3 ⟨rfl, hb⟩
  have G3 := Lib.hid (G1.out.below hb)
  clear hb G1
  go_wp2_with fail
  refine (refof_pl HM.out _).mono ?_; rintro e w4 ⟨rfl, rfl⟩
  go_wp2_with fail
  refine (right_pl HM.out _).mono ?_; rintro e w5 ⟨rfl, rfl⟩
  go_wp2_with fail
  refine (refright_pl HM.out _).mono ?_; rintro e w6 ⟨rfl, rfl⟩
  go_wp2_with fail
  refine (turned_pl HM.out q _).mono ?_; rintro e w7 ⟨⟨a5, b5, rfl, hp5⟩, hb⟩
  have G7 := Lib.hid (G3.out.below hb)
  clear hb G3
  go_wp2_with fail
  refine (refturned_pl HM.out q _).mono ?_; rintro e w8 ⟨⟨a6, b6, rfl, hp6⟩, rfl⟩
  obtain ⟨s5, s6⟩ := hp5.same hp6
  clear hp5 hp6
  go_wp2_with fail
  refine (turned_not (by omega) (by omega) not_zero q _).mono ?_; rintro e w9 ⟨rfl, hb⟩
  have G9 := Lib.hid (G7.out.below hb)
  clear hb G7
  go_wp2_with fail
  refine (refturned_not (by omega) (by omega) not_zero q _).mono ?_; rintro e w10 ⟨rfl, rfl⟩
  go_wp2_with fail
  refine (place_any p _).mono ?_; rintro e w11 ⟨rfl, rfl⟩
  go_wp2_with fail
  refine (refplace_any p _).mono ?_; rintro e w12 ⟨rfl, rfl⟩
  go_wp2_with fail
  refine (quarter_any p _).mono ?_; rintro e w13 ⟨rfl, rfl⟩
  go_wp2_with fail
  refine (refquarter_any p _).mono ?_; rintro e w14 ⟨rfl, rfl⟩
  go_wp2_with fail
  refine (wakes_any _).mono ?_; rintro e w15 ⟨rfl, hb⟩
  have G15 := Lib.hid (G9.out.below hb)
  clear hb G9
  go_wp2
  go_ret
  exact ⟨rfl, G15.out⟩
set_option maxRecDepth 100000 in
set_option maxHeartbeats 1000000 in
theorem tells_nn (p q : Int) (x : Nat) (hx : x < 18446744073709551616) (y : Nat) (hy : y < 18446744073709551616) (hn : p < 0 ∨ 65536 ≤ p) (hpt : ¬ Pt x y) (w0 w : World) (h : Good w0 w) : Calls Try.prog 3 #[.int .i64 p, .int .i64 q, .float .f64 x, .float .f64 y] w fun e w' => e = .returned (.bool true) ∧ Good w0 w' := by
  have z0 := zero_same
  have G0 := Lib.hid h
  have HX := Lib.hid (And.intro hx hy)
  have HM := Lib.hid hpt
  have HF := Lib.hid hn
  clear h hx hy hpt hn
  go_enter Try.func3, Try.ntmps3
  go_wp2_with fail
  refine (at_no p HF.out _).mono ?_; rintro e w1 ⟨rfl, hb⟩
  have G1 := Lib.hid (G0.out.below hb)
  clear hb G0
  go_wp2_with fail
  refine (refat_no p HF.out _).mono ?_; rintro e w2 ⟨rfl, rfl⟩
  go_wp2_with fail
  refine (of_not HX.out.1 HX.out.2 HM.out _).mono ?_; rintro e w3 ⟨rfl, hb⟩
  have G3 := Lib.hid (G1.out.below hb)
  clear hb G1
  go_wp2_with fail
  refine (refof_not HX.out.1 HX.out.2 HM.out _).mono ?_; rintro e w4 ⟨rfl, rfl⟩
  go_wp2_with fail
  refine (right_not _ _ HX.out.1 HX.out.2 HM.out _).mono ?_; rintro e w5 ⟨rfl, rfl⟩
  go_wp2_with fail
  refine (refright_not HX.out.1 HX.out.2 HM.out _).mono ?_; rintro e w6 ⟨rfl, rfl⟩
  go_wp2_with fail
  refine (turned_not HX.out.1 HX.out.2 HM.out q _).mono ?_; rintro e w7 ⟨rfl, hb⟩
  have G7 := Lib.hid (G3.out.below hb)
  clear hb G3
  go_wp2_with fail
  refine (refturned_not HX.out.1 HX.out.2 HM.out q _).mono ?_; rintro e w8 ⟨rfl, rfl⟩
  go_wp2_with fail
  refine (turned_not (by omega) (by omega) not_zero q _).mono ?_; rintro e w9 ⟨rfl, hb⟩
  have G9 := Lib.hid (G7.out.below hb)
  clear hb G7
  go_wp2_with fail
  refine (refturned_not (by omega) (by omega) not_zero q _).mono ?_; rintro e w10 ⟨rfl, rfl⟩
  go_wp2_with fail
  refine (place_any p _).mono ?_; rintro e w11 ⟨rfl, rfl⟩
  go_wp2_with fail
  refine (refplace_any p _).mono ?_; rintro e w12 ⟨rfl, rfl⟩
  go_wp2_with fail
  refine (quarter_any p _).mono ?_; rintro e w13 ⟨rfl, rfl⟩
  go_wp2_with fail
  refine (refquarter_any p _).mono ?_; rintro e w14 ⟨rfl, rfl⟩
  go_wp2_with fail
  refine (wakes_any _).mono ?_; rintro e w15 ⟨rfl, hb⟩
  have G15 := Lib.hid (G9.out.below hb)
  clear hb G9
  go_wp2
  go_ret
  exact ⟨rfl, G15.out⟩
theorem tells_walk (p q : Int) (x : Nat) (hx : x < 18446744073709551616) (y : Nat) (hy : y < 18446744073709551616) (w0 w : World) (h : Good w0 w) : Calls Try.prog 3 #[.int .i64 p, .int .i64 q, .float .f64 x, .float .f64 y] w fun e w' => e = .returned (.bool true) ∧ Good w0 w' := by
  by_cases hp : 0 ≤ p ∧ p < 65536
  · by_cases hpt : Pt x y
    · obtain ⟨m, hm⟩ := hpt.pl
      exact tells_yy p q x hx y hy hp.1 hp.2 m hm w0 w h
    · exact tells_yn p q x hx y hy hp.1 hp.2 hpt w0 w h
  · by_cases hpt : Pt x y
    · obtain ⟨m, hm⟩ := hpt.pl
      exact tells_ny p q x hx y hy (by omega) m hm w0 w h
    · exact tells_nn p q x hx y hy (by omega) hpt w0 w h
end Go.Proofs.Ytaaonafokkdadaa
