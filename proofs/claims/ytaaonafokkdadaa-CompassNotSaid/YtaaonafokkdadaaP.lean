/-
  The reference's Of: the first turn back at which the point stands in the first quarter.
  Conditions: none beyond those that each lemma states.
-/
import Derived.Test.YtaaonafokkdadaaO
namespace Go.Proofs.Ytaaonafokkdadaa
open Go Go.RowKit Go.Shelf
attribute [local go_sem] Oper.semAt_some run_store_complex unary_neg_float

def GoodAt (a b : Nat) (m : Int) : Prop := ∃ n, Fl a n ∧ 1 ≤ n ∧ Fl b m ∧ 0 ≤ m ∧ n + m = 16384
/-- The words of a point turned back k times. -/
def zb (a b : Nat) : Nat → Nat × Nat
  | 0 => (a, b)
  | k + 1 => ((zb a b k).2, ng (zb a b k).1)
theorem zb_lt {a b : Nat} (ha : a < 18446744073709551616) (hb : b < 18446744073709551616) (k : Nat) : (zb a b k).1 < 18446744073709551616 ∧ (zb a b k).2 < 18446744073709551616 := by
  induction k with
  | zero => exact ⟨ha, hb⟩
  | succ k ih => exact ⟨ih.2, ng_lt _ ih.1⟩

set_option maxRecDepth 100000 in
set_option maxHeartbeats 1000000 in
theorem refof_any (a b : Nat) (ha : a < 18446744073709551616) (hb : b < 18446744073709551616) (w : World) : Calls Try.prog 11 #[.complex .f64 a b] w fun e w' =>
    ((∃ (k : Nat) (m : Int), k < 4 ∧ (∀ j, j < k → ∀ m, ¬ GoodAt (zb a b j).1 (zb a b j).2 m) ∧ GoodAt (zb a b k).1 (zb a b k).2 m ∧ e = .returned (.tuple #[.int .i64 ((k : Int) * 16384 + m), .int .i64 0])) ∨
      ((∀ j, j < 4 → ∀ m, ¬ GoodAt (zb a b j).1 (zb a b j).2 m) ∧ e = .returned (.tuple #[.int .i64 0, .int .i64 2]))) ∧ w = w' := by
  have HZ := Lib.hid (zb_lt ha hb)
  clear ha hb
  go_enter Try.func11, Try.ntmps11
  go_wp2
  go_loop [0, 4] (fun z i => ∃ k : Nat, k ≤ 4 ∧ i = .int .i64 k ∧ z = .complex .f64 (zb a b k).1 (zb a b k).2 ∧ Hid (∀ j, j < k → ∀ m, ¬ GoodAt (zb a b j).1 (zb a b j).2 m)) (fun _ i => 4 - (intOf i).toNat)
  case atStart => exact ⟨0, Nat.zero_le _, rfl, rfl, Lib.hid (fun j hj => by omega)⟩
  case round =>
    obtain ⟨k, hk, rfl, rfl, hno⟩ := hrel
    by_cases hlt : k < 4
    · have HL := Lib.hid (HZ.out k)
      have HN : Hid (zb a b (k + 1) = ((zb a b k).2, ng (zb a b k).1)) := Lib.hid rfl
      obtain ⟨A, hA⟩ : ∃ A, A = (zb a b k).1 := ⟨_, rfl⟩
      obtain ⟨B, hB⟩ : ∃ B, B = (zb a b k).2 := ⟨_, rfl⟩
      rw [← hA, ← hB] at HL HN ⊢
      have HG : Hid (∀ m, GoodAt A B m → GoodAt (zb a b k).1 (zb a b k).2 m) := Lib.hid (fun m h => by rw [← hA, ← hB]; exact h)
      have HG2 : Hid (∀ m, GoodAt (zb a b k).1 (zb a b k).2 m → GoodAt A B m) := Lib.hid (fun m h => by rw [hA, hB]; exact h)
      clear hA hB
      have step : (∀ m, ¬ GoodAt A B m) → ∀ j, j < k + 1 → ∀ m, ¬ GoodAt (zb a b j).1 (zb a b j).2 m := fun h j hj m hg => by
        rcases Nat.lt_succ_iff_lt_or_eq.1 hj with c | rfl
        · exact hno.out j c m hg
        · exact h m (HG2.out m hg)
      have ST := Lib.hid step
      clear step
      by_cases wa : ∃ n, Fl A n ∧ 1 ≤ n ∧ n ≤ 16384
      · obtain ⟨n, fa, n1, n2⟩ := wa
        have FA := Lib.hid fa
        have c1 := fun w => run_convert_float_int (P := Try.prog) w 22 3 .f64 .i64 A n (by kernel_rfl) Try.underlying3 (fa.toInt (by omega))
        clear fa
        by_cases wb : ∃ m, Fl B m ∧ 0 ≤ m ∧ m ≤ 16383
        · obtain ⟨m, fb, m1, m2⟩ := wb
          have FB := Lib.hid fb
          have c2 := fun w => run_convert_float_int (P := Try.prog) w 22 3 .f64 .i64 B m (by kernel_rfl) Try.underlying3 (fb.toInt (by omega))
          clear fb
          by_cases hs : n + m = 16384
          · have HH : Hid (GoodAt A B m) := Lib.hid ⟨n, FA.out, n1, FB.out, m1, hs⟩
            have hsb : (n + m == 16384) = true := by rw [beq_iff_eq]; exact hs
            clear hs
            go_wp2_with fail
            refine (refwhole_yes A n 1 16384 FA.out n1 n2 (by omega) (by omega) _).mono ?_; rintro e w' ⟨rfl, rfl⟩
            go_wp2_with fail
            refine (refwhole_yes B m 0 16383 FB.out m1 m2 (by omega) (by omega) _).mono ?_; rintro e w' ⟨rfl, rfl⟩
            go_wp2
            go_ret2
            exact ⟨.inl ⟨k, m, hlt, hno.out, HG.out m HH.out, rfl⟩, rfl⟩
          · have HH : Hid (∀ m', ¬ GoodAt A B m') := Lib.hid (fun m' ⟨n', f1, _, f2, _, e⟩ => by
              have e1 : n' = n := Option.some.inj ((f1.toInt (by have := f2; omega)).symm.trans (FA.out.toInt (by omega)))
              have e2 : m' = m := Option.some.inj ((f2.toInt (by omega)).symm.trans (FB.out.toInt (by omega)))
              omega)
            have hsb : (n + m == 16384) = false := by rw [beq_eq_false_iff_ne]; exact hs
            clear hs
            go_wp2_with fail
            refine (refwhole_yes A n 1 16384 FA.out n1 n2 (by omega) (by omega) _).mono ?_; rintro e w' ⟨rfl, rfl⟩
            go_wp2_with fail
            refine (refwhole_yes B m 0 16383 FB.out m1 m2 (by omega) (by omega) _).mono ?_; rintro e w' ⟨rfl, rfl⟩
            go_wp2
            go_round
            case rel => exact ⟨k + 1, by omega, by go_num, by rw [HN.out], Lib.hid (ST.out HH.out)⟩
            case measure => simp [intOf]; omega
        · have HH : Hid (∀ m', ¬ GoodAt A B m') := Lib.hid (fun m' ⟨n', f1, _, f2, _, e⟩ => wb ⟨m', f2, by omega, by omega⟩)
          have HW : Hid (∀ w, Calls Try.prog 25 #[.float .f64 B, .int .i64 0, .int .i64 16383] w fun e w' => e = .returned (.bool false) ∧ w = w') := Lib.hid (refwhole_no B HL.out.2 0 16383 (by omega) (by omega) (by omega) (by omega) wb)
          clear wb
          go_wp2_with fail
          refine (refwhole_yes A n 1 16384 FA.out n1 n2 (by omega) (by omega) _).mono ?_; rintro e w' ⟨rfl, rfl⟩
          go_wp2_with fail
          refine (HW.out _).mono ?_; rintro e w' ⟨rfl, rfl⟩
          go_wp2
          go_round
          case rel => exact ⟨k + 1, by omega, by go_num, by rw [HN.out], Lib.hid (ST.out HH.out)⟩
          case measure => simp [intOf]; omega
      · have HH : Hid (∀ m', ¬ GoodAt A B m') := Lib.hid (fun m' ⟨n', f1, _, f2, _, e⟩ => wa ⟨n', f1, by omega, by omega⟩)
        have HW : Hid (∀ w, Calls Try.prog 25 #[.float .f64 A, .int .i64 1, .int .i64 16384] w fun e w' => e = .returned (.bool false) ∧ w = w') := Lib.hid (refwhole_no A HL.out.1 1 16384 (by omega) (by omega) (by omega) (by omega) wa)
        clear wa
        go_wp2_with fail
        refine (HW.out _).mono ?_; rintro e w' ⟨rfl, rfl⟩
        go_wp2
        go_round
        case rel => exact ⟨k + 1, by omega, by go_num, by rw [HN.out], Lib.hid (ST.out HH.out)⟩
        case measure => simp [intOf]; omega
    · obtain rfl : k = 4 := by omega
      go_wp2
      go_ret2
      exact ⟨.inr ⟨hno.out, rfl⟩, rfl⟩
end Go.Proofs.Ytaaonafokkdadaa
