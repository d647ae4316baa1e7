/-
  What the law's own examples answer.
-/
import Derived.Test.YtaaonafokkdadaaR
namespace Go.Proofs.Ytaaonafokkdadaa
open Go Go.RowKit Go.Shelf
attribute [local go_sem] Oper.semAt_some run_store_complex unary_neg_float

theorem bits_a : fl 16383 = 4670232263827390464 := by decide +kernel
theorem bits_b : fl (-16384) = 13893604850437980160 := by decide +kernel
theorem bits_c : fl 8000 = 4665518107723300864 := by decide +kernel
theorem bits_d : fl (-1) = 13830554455654793216 := by decide +kernel
theorem fl_a : Fl 4670232263827390464 16383 := by have := fl_Fl 16383 (by decide); rwa [bits_a] at this
theorem fl_b : Fl 13893604850437980160 (-16384) := by have := fl_Fl (-16384) (by decide); rwa [bits_b] at this
theorem fl_c : Fl 4665518107723300864 8000 := by have := fl_Fl 8000 (by decide); rwa [bits_c] at this
theorem fl_d : Fl 13830554455654793216 (-1) := by have := fl_Fl (-1) (by decide); rwa [bits_d] at this
theorem fl_one : Fl 4607182418800017408 1 := by have := fl_Fl 1 (by decide); rwa [bits_one] at this
theorem pl_of {a b : Nat} {p : Int} (h0 : 0 ≤ p) (h1 : p < 65536) {x y : Int} (ha : Fl a x) (hb : Fl b y) (e : ptF p = (x, y)) : Pl a b p := ⟨h0, h1, by rw [e]; exact ha, by rw [e]; exact hb⟩
theorem pl_32768 : Pl 13893604850437980160 0 32768 := pl_of (by omega) (by omega) fl_b zero_Fl (by decide)
theorem pl_49152 : Pl 0 13893604850437980160 49152 := pl_of (by omega) (by omega) zero_Fl fl_b (by decide)
theorem pl_1 : Pl 4670232263827390464 4607182418800017408 1 := pl_of (by omega) (by omega) fl_a fl_one (by decide)
theorem pl_16385 : Pl 13830554455654793216 4670232263827390464 16385 := pl_of (by omega) (by omega) fl_d fl_a (by decide)
theorem not_8000 : ¬ Pt 4665518107723300864 4665518107723300864 := fun ⟨x, y, hx, hy, h⟩ => by
  have := hx.unique fl_c
  have := hy.unique fl_c
  omega
theorem not_half : ¬ Pt 4602678819172646912 4670232538705297408 := fun ⟨x, y, hx, hy, h⟩ => by
  have h1 := ord hx zero_Fl
  have h2 := ord hx fl_one
  have e1 : FloatKind.f64.format.order 4602678819172646912 0 = some .gt := by decide +kernel
  have e2 : FloatKind.f64.format.order 4602678819172646912 4607182418800017408 = some .lt := by decide +kernel
  rw [e1] at h1
  rw [e2] at h2
  have c1 : compare x 0 = .gt := (Option.some.inj h1).symm
  have c2 : compare x 1 = .lt := (Option.some.inj h2).symm
  rcases Int.lt_or_le 0 x with c | c
  · rcases Int.lt_or_eq_of_le (show 1 ≤ x by omega) with d | d
    · rw [cmp_gt d] at c2; cases c2
    · rw [cmp_eq d.symm] at c2; cases c2
  · exact cmp_ne_gt c c1
theorem not_zero : ¬ Pt 0 0 := fun ⟨x, y, hx, hy, h⟩ => by
  have := hx.unique zero_Fl
  have := hy.unique zero_Fl
  omega
/-- Two points that are one, as the walk asks it. -/
theorem Pl.same {a b c d : Nat} {p : Int} (h : Pl a b p) (g : Pl c d p) : FloatKind.f64.format.order a c = some .eq ∧ FloatKind.f64.format.order b d = some .eq := by
  rw [ord h.re g.re, ord h.im g.im, cmp_eq rfl, cmp_eq rfl]
  exact ⟨rfl, rfl⟩
theorem zero_same : FloatKind.f64.format.order 0 0 = some .eq := by decide +kernel
theorem quarter_one : quarterF 16384 = 1 := by decide
theorem quarter_low : quarterF (-1) = -1 := by decide

theorem chain {w0 a b : World} (h : Below w0.heap.size w0 a) (g : Below a.heap.size a b) : Below w0.heap.size w0 b := h.trans (g.mono h.size)

set_option maxRecDepth 100000 in
set_option maxHeartbeats 1000000 in
theorem wakes_any (w : World) : Calls Try.prog 20 #[] w fun e w' => e = .returned (.bool true) ∧ Below w.heap.size w w' := by
  have z0 := zero_same
  go_enter Try.func20, Try.ntmps20
  go_wp2_with fail
  refine (at_pl 1 (by omega) (by omega) _).mono ?_; rintro e w1 ⟨⟨a, b, rfl, hp⟩, hb1⟩
  obtain ⟨s1, s2⟩ := hp.same pl_1
  have HP := Lib.hid hp
  have B1 := Lib.hid hb1
  clear hp hb1
  go_wp2_with fail
  refine (of_pl pl_32768 _).mono ?_; rintro e w2 ⟨rfl, hb2⟩
  have B2 := Lib.hid hb2
  clear hb2
  go_wp2_with fail
  refine (at_no 65536 (by omega) _).mono ?_; rintro e w3 ⟨rfl, hb3⟩
  have B3 := Lib.hid hb3
  clear hb3
  go_wp2_with fail
  refine (of_not fl_c.lt fl_c.lt not_8000 _).mono ?_; rintro e w4 ⟨rfl, hb4⟩
  have B4 := Lib.hid hb4
  clear hb4
  go_wp2_with fail
  refine (right_pl pl_49152 _).mono ?_; rintro e w5 ⟨rfl, rfl⟩
  go_wp2_with fail
  refine (right_not _ _ (by omega) (by omega) not_half _).mono ?_; rintro e w5 ⟨rfl, rfl⟩
  go_wp2_with fail
  refine (turned_pl HP.out 1 _).mono ?_; rintro e w5 ⟨⟨c, d, rfl, hc⟩, hb5⟩
  obtain ⟨s3, s4⟩ := Pl.same (p := 16385) hc pl_16385
  have B5 := Lib.hid hb5
  clear hb5 hc
  go_wp2_with fail
  refine (turned_not (by omega) (by omega) not_zero 1 _).mono ?_; rintro e w6 ⟨rfl, hb6⟩
  have B6 := Lib.hid hb6
  clear hb6
  go_wp2_with fail
  refine (place_any (-1) _).mono ?_; rintro e w7 ⟨rfl, rfl⟩
  go_wp2_with fail
  refine (quarter_any 16384 _).mono ?_; rintro e w7 ⟨rfl, rfl⟩
  rw [quarter_one]
  go_wp2_with fail
  refine (quarter_any (-1) _).mono ?_; rintro e w7 ⟨rfl, rfl⟩
  rw [quarter_low]
  go_wp2
  go_ret
  refine ⟨rfl, ?_⟩
  exact chain (chain (chain (chain (chain B1.out B2.out) B3.out) B4.out) B5.out) B6.out
end Go.Proofs.Ytaaonafokkdadaa
