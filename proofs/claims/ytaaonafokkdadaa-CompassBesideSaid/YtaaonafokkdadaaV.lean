/-
  The law CompassBeside: the walk.
-/
import Derived.Test.YtaaonafokkdadaaU
namespace Go.Proofs.Ytaaonafokkdadaa
open Go Go.RowKit Go.Shelf
attribute [local go_sem] Oper.semAt_some run_store_complex unary_neg_float unary_neg_complex

theorem pt_next (p : Int) (h0 : 0 ≤ p) (h1 : p < 65536) : ((ptF ((p + 1) % 65536)).1 - (ptF p).1).natAbs = 1 ∧ ((ptF ((p + 1) % 65536)).2 - (ptF p).2).natAbs = 1 := by
  have hr : ∃ r, (p + 1) % 65536 = r ∧ 0 ≤ r ∧ r < 65536 := ⟨_, rfl, by omega, by omega⟩
  obtain ⟨r, hr, r0, r1⟩ := hr
  rw [hr]
  rcases pt_val p h0 h1 with ⟨_, e⟩ | ⟨_, _, e⟩ | ⟨_, _, e⟩ | ⟨_, e⟩ <;> rw [e] <;>
    rcases pt_val r r0 r1 with ⟨_, f⟩ | ⟨_, _, f⟩ | ⟨_, _, f⟩ | ⟨_, f⟩ <;> rw [f] <;> simp only [] <;> omega
/-- How a word that is a whole number stands to nought. -/
theorem pos_fl {b : Nat} {x : Int} (h : Fl b x) (c : 0 < x) : FloatKind.f64.format.order b 0 = some .gt := by rw [ord h zero_Fl, cmp_gt c]
theorem neg_fl {b : Nat} {x : Int} (h : Fl b x) (c : x < 0) : FloatKind.f64.format.order b 0 = some .lt := by rw [ord h zero_Fl, cmp_lt c]
theorem nonneg_fl {b : Nat} {x : Int} (h : Fl b x) (c : 0 ≤ x) : FloatKind.f64.format.order b 0 = some .gt ∨ FloatKind.f64.format.order b 0 = some .eq := by
  rw [ord h zero_Fl]
  rcases Int.lt_or_eq_of_le c with d | d
  · rw [cmp_gt d]; exact .inl rfl
  · rw [cmp_eq d.symm]; exact .inr rfl
theorem nonpos_fl {b : Nat} {x : Int} (h : Fl b x) (c : x ≤ 0) : FloatKind.f64.format.order b 0 = some .lt ∨ FloatKind.f64.format.order b 0 = some .eq := by
  rw [ord h zero_Fl]
  rcases Int.lt_or_eq_of_le c with d | d
  · rw [cmp_lt d]; exact .inl rfl
  · rw [cmp_eq d]; exact .inr rfl
theorem signs_fl {a b : Nat} {p : Int} (h : Pl a b p) :
    (quarterF p = 0 ∧ FloatKind.f64.format.order a 0 = some .gt ∧ (FloatKind.f64.format.order b 0 = some .gt ∨ FloatKind.f64.format.order b 0 = some .eq)) ∨
    (quarterF p = 1 ∧ (FloatKind.f64.format.order a 0 = some .lt ∨ FloatKind.f64.format.order a 0 = some .eq) ∧ FloatKind.f64.format.order b 0 = some .gt) ∨
    (quarterF p = 2 ∧ FloatKind.f64.format.order a 0 = some .lt ∧ (FloatKind.f64.format.order b 0 = some .lt ∨ FloatKind.f64.format.order b 0 = some .eq)) ∨
    (quarterF p = 3 ∧ (FloatKind.f64.format.order a 0 = some .gt ∨ FloatKind.f64.format.order a 0 = some .eq) ∧ FloatKind.f64.format.order b 0 = some .lt) := by
  have h0 := h.low
  have h1 := h.high
  have f1 := h.re
  have f2 := h.im
  unfold quarterF
  rw [if_neg (by omega)]
  rcases pt_val p h0 h1 with ⟨c, e⟩ | ⟨c1, c2, e⟩ | ⟨c1, c2, e⟩ | ⟨c, e⟩ <;> rw [e] at f1 f2 <;> simp only [] at f1 f2
  · exact .inl ⟨by omega, pos_fl f1 (by omega), nonneg_fl f2 (by omega)⟩
  · exact .inr (.inl ⟨by omega, nonpos_fl f1 (by omega), pos_fl f2 (by omega)⟩)
  · exact .inr (.inr (.inl ⟨by omega, neg_fl f1 (by omega), nonpos_fl f2 (by omega)⟩))
  · exact .inr (.inr (.inr ⟨by omega, nonneg_fl f1 (by omega), neg_fl f2 (by omega)⟩))

set_option maxRecDepth 100000 in
set_option maxHeartbeats 1000000 in
theorem beside_walk (p n : Int) (n0 : -9223372036854775808 ≤ n) (n1 : n ≤ 9223372036854775807) (w0 w : World) (h : Good w0 w) : Calls Try.prog 6 #[.int .i64 p, .int .i64 n] w fun e w' => e = .returned (.bool true) ∧ Good w0 w' := by
  obtain ⟨t1, t2, P, hP, -, p0, p1⟩ := rest_facts p
  have m0 : 0 ≤ n % 65536 := by omega
  have m1 : n % 65536 < 65536 := by omega
  have b0 : -9223372036854775808 ≤ n - n % 65536 := by omega
  have b1 : n - n % 65536 ≤ 9223372036854775807 := by omega
  have hmod : (n - n % 65536).tmod 65536 = 0 := by
    have := Int.tmod_add_mul_tdiv (n - n % 65536) 65536
    have h2 := Int.tmod_lt_of_pos (n - n % 65536) (show (0 : Int) < 65536 by omega)
    have h3 := Int.lt_tmod_of_pos (n - n % 65536) (show (0 : Int) < 65536 by omega)
    omega
  have HG := Lib.hid h
  clear h
  go_enter Try.func6, Try.ntmps6
  go_wp2_with fail
  refine (at_pl P p0 p1 _).mono ?_; rintro e w1 ⟨⟨a, b, rfl, hp⟩, hb⟩
  have HP := Lib.hid hp
  have G1 := Lib.hid (HG.out.below hb)
  clear hp hb HG
  go_wp2_with fail
  refine (place_any (P + 1) _).mono ?_; rintro e w2 ⟨rfl, rfl⟩
  go_wp2_with fail
  refine (at_pl ((P + 1) % 65536) (by omega) (by omega) _).mono ?_; rintro e w2 ⟨⟨c, d, rfl, hp⟩, hb⟩
  have G2 := Lib.hid (G1.out.below hb)
  have hnext := pt_next P p0 p1
  obtain ⟨r, i, hsub, fr, fi⟩ := csub_fl hp.re hp.im HP.out.re HP.out.im (by omega) (by omega)
  obtain ⟨r1, hmax1, fr1⟩ := size_fl fr (by omega)
  obtain ⟨r2, hmax2, fr2⟩ := size_fl fi (by omega)
  have o1 := ord fr1 fl_one
  have o2 := ord fr2 fl_one
  rw [cmp_eq (by omega)] at o1 o2
  have s1 := fun t w => hsub Try.prog t w
  have s2 := fun ts t w => hmax1 Try.prog ts t w
  have s3 := fun ts t w => hmax2 Try.prog ts t w
  clear hp hb G1 hnext hsub fr fi hmax1 hmax2 fr1 fr2
  go_wp2_with fail
  refine (place_any P _).mono ?_; rintro e w3 ⟨rfl, rfl⟩
  rw [show P % 65536 = P by omega]
  go_wp2_with fail
  refine (place_any (P - 65536) _).mono ?_; rintro e w3 ⟨rfl, rfl⟩
  rw [show (P - 65536) % 65536 = P by omega]
  clear s1 s2 s3 o1 o2
  go_wp2_with fail
  refine (place_any n _).mono ?_; rintro e w3 ⟨rfl, rfl⟩
  go_wp2_with fail
  refine (quarter_any P _).mono ?_; rintro e w3 ⟨rfl, rfl⟩
  rcases signs_fl HP.out with ⟨hq, o1, o2 | o2⟩ | ⟨hq, o1 | o1, o2⟩ | ⟨hq, o1, o2 | o2⟩ | ⟨hq, o1 | o1, o2⟩
  all_goals
    rw [hq]
    clear hq
    go_wp2_with fail
    refine (wakes_any _).mono ?_; rintro e w9 ⟨rfl, hb⟩
    have G9 := Lib.hid (G2.out.below hb)
    clear hb G2
    go_wp2
    go_ret
    exact ⟨rfl, G9.out⟩
end Go.Proofs.Ytaaonafokkdadaa
