/-
  The law CompassTurns: the walk.
-/
import Derived.Test.YtaaonafokkdadaaT
namespace Go.Proofs.Ytaaonafokkdadaa
open Go Go.RowKit Go.Shelf
attribute [local go_sem] Oper.semAt_some run_store_complex unary_neg_float unary_neg_complex

theorem tmod_k (n : Int) : -1000 < n.tmod 1000 ∧ n.tmod 1000 < 1000 := by
  have h2 := Int.tmod_lt_of_pos n (show (0 : Int) < 1000 by omega)
  have h3 := Int.lt_tmod_of_pos n (show (0 : Int) < 1000 by omega)
  omega
/-- A number's place, as the law finds it. -/
theorem rest_facts (n : Int) : -65536 < n.tmod 65536 ∧ n.tmod 65536 < 65536 ∧ ∃ P, n.tmod 65536 % 65536 = P ∧ P = n % 65536 ∧ 0 ≤ P ∧ P < 65536 := by
  obtain ⟨h1, h2, h3⟩ := tmod_facts n
  exact ⟨h1, h2, _, rfl, by omega, by omega, by omega⟩

set_option maxRecDepth 100000 in
set_option maxHeartbeats 1000000 in
theorem turns_walk (p q : Int) (w0 w : World) (h : Good w0 w) : Calls Try.prog 5 #[.int .i64 p, .int .i64 q] w fun e w' => e = .returned (.bool true) ∧ Good w0 w' := by
  obtain ⟨t1, t2, P, hP, -, p0, p1⟩ := rest_facts p
  obtain ⟨k1, k2⟩ := tmod_k q
  obtain ⟨K, hK⟩ : ∃ K, q.tmod 1000 = K := ⟨_, rfl⟩
  rw [hK] at k1 k2
  obtain ⟨f1, f2, F, hF, hF2, g0, g1⟩ := rest_facts (P + 16384 * K)
  have HG := Lib.hid h
  have HF2 := Lib.hid hF2
  clear h hF2
  go_enter Try.func5, Try.ntmps5
  go_wp2_with fail
  refine (at_pl P p0 p1 _).mono ?_; rintro e w1 ⟨⟨a, b, rfl, hp⟩, hb⟩
  have HP := Lib.hid hp
  have G1 := Lib.hid (HG.out.below hb)
  clear hp hb HG
  go_wp2_with fail
  refine (at_pl ((P + 16384) % 65536) (by omega) (by omega) _).mono ?_; rintro e w2 ⟨⟨c, d, rfl, hp⟩, hb⟩
  have HO := Lib.hid hp
  have G2 := Lib.hid (G1.out.below hb)
  clear hp hb G1
  go_wp2_with fail
  refine (turned_pl HP.out K _).mono ?_; rintro e w3 ⟨⟨c3, d3, rfl, hp⟩, hb⟩
  rw [← HF2.out] at hp
  have HW := Lib.hid hp
  have G3 := Lib.hid (G2.out.below hb)
  clear hp hb G2
  go_wp2_with fail
  refine (at_pl F g0 g1 _).mono ?_; rintro e w4 ⟨⟨c4, d4, rfl, hp⟩, hb⟩
  obtain ⟨s1, s2⟩ := HW.out.same hp
  have G4 := Lib.hid (G3.out.below hb)
  clear hp hb G3
  go_wp2_with fail
  refine (turned_pl HP.out 1 _).mono ?_; rintro e w5 ⟨⟨c5, d5, rfl, hp⟩, hb⟩
  rw [show (P + 16384 * 1) % 65536 = (P + 16384) % 65536 by omega] at hp
  obtain ⟨s3, s4⟩ := hp.same HO.out
  have G5 := Lib.hid (G4.out.below hb)
  clear hp hb G4
  go_wp2_with fail
  refine (turned_pl HW.out (-K) _).mono ?_; rintro e w6 ⟨⟨c6, d6, rfl, hp⟩, hb⟩
  rw [show (F + 16384 * -K) % 65536 = P by have := HF2.out; omega] at hp
  obtain ⟨s5, s6⟩ := hp.same HP.out
  have G6 := Lib.hid (G5.out.below hb)
  clear hp hb G5
  go_wp2_with fail
  refine (turned_pl HP.out 4 _).mono ?_; rintro e w7 ⟨⟨c7, d7, rfl, hp⟩, hb⟩
  rw [show (P + 16384 * 4) % 65536 = P by omega] at hp
  obtain ⟨s7, s8⟩ := hp.same HP.out
  have G7 := Lib.hid (G6.out.below hb)
  clear hp hb G6
  go_wp2_with fail
  refine (turned_pl HP.out 2 _).mono ?_; rintro e w8 ⟨⟨c8, d8, rfl, hp⟩, hb⟩
  rw [show (P + 16384 * 2) % 65536 = (P + 32768) % 65536 by omega] at hp
  obtain ⟨s9, s10⟩ := hp.same HP.out.neg
  have G8 := Lib.hid (G7.out.below hb)
  clear hp hb G7
  go_wp2_with fail
  refine (wakes_any _).mono ?_; rintro e w9 ⟨rfl, hb⟩
  have G9 := Lib.hid (G8.out.below hb)
  clear hb G8
  go_wp2
  go_ret
  exact ⟨rfl, G9.out⟩
end Go.Proofs.Ytaaonafokkdadaa
