/-
  The reference's other functions, and Quarter.
  Conditions: none beyond those that each lemma states.
-/
import Derived.Test.YtaaonafokkdadaaQ
namespace Go.Proofs.Ytaaonafokkdadaa
open Go Go.RowKit Go.Shelf
attribute [local go_sem] Oper.semAt_some run_store_complex unary_neg_float

theorem quarter_any (p : Int) (w : World) : Calls Try.prog 18 #[.int .i64 p] w fun e w' => e = .returned (.int .i64 (quarterF p)) ∧ w = w' := by
  unfold quarterF
  by_cases h0 : p < 0
  · rw [if_pos (.inl h0)]
    go_enter Try.func18, Try.ntmps18
    go_wp2
    refine wp_scope_labels (fun l a' w' => l = 0 ∧ w' = w ∧ ∃ u3 u4 u5 u6 u7 u8 : Value, a' = { tmps := #[.int .i64 p, undef, .int .i64 0, u3, u4, u5, u6, u7, u8, undef, undef], defers := [] }) (fun _ _ _ => 0) ?first ?pass
    case first =>
      go_wp2
      go_step3
      exact ⟨rfl, rfl, _, _, _, _, _, _, rfl⟩
    case pass =>
      rintro l a' w' ⟨rfl, rfl, u3, u4, u5, u6, u7, u8, rfl⟩
      refine ⟨_, rfl, ?_⟩
      go_wp2
      try rw [jumps_ret]
      go_ret
      exact ⟨rfl, rfl⟩
  · by_cases h1 : 65536 ≤ p
    · rw [if_pos (.inr h1)]
      go_enter Try.func18, Try.ntmps18
      go_wp2
      refine wp_scope_labels (fun l a' w' => l = 0 ∧ w' = w ∧ ∃ u3 u4 u5 u6 u7 u8 : Value, a' = { tmps := #[.int .i64 p, undef, .int .i64 0, u3, u4, u5, u6, u7, u8, undef, undef], defers := [] }) (fun _ _ _ => 0) ?first ?pass
      case first =>
        go_wp2
        go_step3
        exact ⟨rfl, rfl, _, _, _, _, _, _, rfl⟩
      case pass =>
        rintro l a' w' ⟨rfl, rfl, u3, u4, u5, u6, u7, u8, rfl⟩
        refine ⟨_, rfl, ?_⟩
        go_wp2
        try rw [jumps_ret]
        go_ret
        exact ⟨rfl, rfl⟩
    · rw [if_neg (by omega)]
      have g0 : 0 ≤ p := by omega
      have g1 : p < 65536 := by omega
      go_enter Try.func18, Try.ntmps18
      go_wp2
      refine wp_scope_labels (fun _ _ _ => False) (fun _ _ _ => 0) ?first (fun _ _ _ h => h.elim)
      case first =>
        go_wp2
        try rw [jumps_ret]
        go_ret
        exact ⟨rfl, rfl⟩
def fineF (p : Int) : Bool := decide (0 ≤ p) && decide (p < 65536)
theorem fine_any (p : Int) (w : World) : Calls Try.prog 23 #[.int .i64 p] w fun e w' => e = .returned (.bool (fineF p)) ∧ w = w' := by
  unfold fineF
  by_cases h0 : 0 ≤ p
  · rw [decide_eq_true h0, Bool.true_and]
    go_enter Try.func23, Try.ntmps23
    go_wp2
    go_ret
    exact ⟨rfl, rfl⟩
  · rw [decide_eq_false h0, Bool.false_and]
    go_enter Try.func23, Try.ntmps23
    go_wp2
    go_ret
    exact ⟨rfl, rfl⟩
theorem fine_yes {p : Int} (h0 : 0 ≤ p) (h1 : p < 65536) : fineF p = true := by unfold fineF; simp [h0, h1]
theorem fine_no {p : Int} (h : p < 0 ∨ 65536 ≤ p) : fineF p = false := by
  unfold fineF
  rcases h with h | h
  · rw [decide_eq_false (by omega), Bool.false_and]
  · rw [decide_eq_false (show ¬ p < 65536 by omega), Bool.and_false]
theorem refquarter_any (p : Int) (w : World) : Calls Try.prog 19 #[.int .i64 p] w fun e w' => e = .returned (.int .i64 (quarterF p)) ∧ w = w' := by
  by_cases h : p < 0 ∨ 65536 ≤ p
  · have hf := fine_no h
    unfold quarterF
    rw [if_pos h]
    go_enter Try.func19, Try.ntmps19
    go_wp2_with fail
    refine (fine_any p _).mono ?_; rintro e w' ⟨rfl, rfl⟩
    rw [hf]
    go_wp2
    go_ret
    exact ⟨rfl, rfl⟩
  · have g0 : 0 ≤ p := by omega
    have g1 : p < 65536 := by omega
    have hf := fine_yes g0 g1
    unfold quarterF
    rw [if_neg h]
    go_enter Try.func19, Try.ntmps19
    go_wp2_with fail
    refine (fine_any p _).mono ?_; rintro e w' ⟨rfl, rfl⟩
    rw [hf]
    go_wp2
    go_ret
    exact ⟨rfl, rfl⟩
theorem tmod_facts (n : Int) : -65536 < n.tmod 65536 ∧ n.tmod 65536 < 65536 ∧ (n.tmod 65536 + 65536) % 65536 = n % 65536 := by
  have := Int.tmod_add_mul_tdiv n 65536
  have h2 := Int.tmod_lt_of_pos n (show (0 : Int) < 65536 by omega)
  have h3 := Int.lt_tmod_of_pos n (show (0 : Int) < 65536 by omega)
  omega
theorem tmod_facts4 (n : Int) : -4 < n.tmod 4 ∧ n.tmod 4 < 4 ∧ (n.tmod 4 + 4) % 4 = n % 4 := by
  have := Int.tmod_add_mul_tdiv n 4
  have h2 := Int.tmod_lt_of_pos n (show (0 : Int) < 4 by omega)
  have h3 := Int.lt_tmod_of_pos n (show (0 : Int) < 4 by omega)
  omega
theorem refplace_any (n : Int) (w : World) : Calls Try.prog 17 #[.int .i64 n] w fun e w' => e = .returned (.int .i64 (n % 65536)) ∧ w = w' := by
  obtain ⟨h2, h3, h4⟩ := tmod_facts n
  rw [← h4]
  clear h4
  go_enter Try.func17, Try.ntmps17
  go_wp2
  go_ret
  exact ⟨rfl, rfl⟩

set_option maxHeartbeats 1000000 in
theorem refpoint_any (p : Int) (h0 : 0 ≤ p) (h1 : p < 65536) (w : World) : Calls Try.prog 24 #[.int .i64 p] w fun e w' => (∃ a b, e = .returned (.complex .f64 a b) ∧ Pl a b p) ∧ w = w' := by
  obtain ⟨q0, hq0⟩ : ∃ q0 : Nat, p / 16384 = (q0 : Int) := ⟨(p / 16384).toNat, by omega⟩
  have hq4 : q0 < 4 := by omega
  have HPT : Hid (ptF p = rot (16384 - p % 16384) (p % 16384) q0) := Lib.hid (by unfold ptF; rw [hq0]; rfl)
  have hbd := pt_bd p h0 h1
  have HF1 : Hid (Fl (floatOfInt .f64 (16384 - p % 16384)) (16384 - p % 16384)) := Lib.hid (fl_Fl _ (by omega))
  have HF2 : Hid (Fl (floatOfInt .f64 (p % 16384)) (p % 16384)) := Lib.hid (fl_Fl _ (by omega))
  have HBD : Hid (∀ k, (rot (16384 - p % 16384) (p % 16384) k).1.natAbs ≤ 1000000 ∧ (rot (16384 - p % 16384) (p % 16384) k).2.natAbs ≤ 1000000) := Lib.hid (fun k => rot_bd _ _ hbd.1 hbd.2 k)
  have HQ := Lib.hid hq0
  clear hbd
  go_enter Try.func24, Try.ntmps24
  go_wp2
  go_loop [3, 4] (fun z i => ∃ (k A B : Nat), k ≤ q0 ∧ i = .int .i64 k ∧ z = .complex .f64 A B ∧ Hid (Fl A (rot (16384 - p % 16384) (p % 16384) k).1 ∧ Fl B (rot (16384 - p % 16384) (p % 16384) k).2)) (fun _ i => q0 - (intOf i).toNat)
  case atStart => exact ⟨0, _, _, Nat.zero_le _, rfl, rfl, Lib.hid ⟨HF1.out, HF2.out⟩⟩
  case round =>
    obtain ⟨k, A, B, hk, rfl, rfl, hfl⟩ := hrel
    by_cases hlt : k < q0
    · have hk2 : (k : Int) < p / 16384 := by omega
      go_wp2
      go_round
      case rel => exact ⟨k + 1, _, _, by omega, by go_num, rfl, Lib.hid ⟨hfl.out.2.neg (by have := HBD.out k; omega), hfl.out.1⟩⟩
      case measure => simp [intOf]; omega
    · obtain rfl : k = q0 := by omega
      go_wp2
      go_ret
      refine ⟨⟨A, B, rfl, h0, h1, ?_, ?_⟩, rfl⟩
      · rw [HPT.out]; exact hfl.out.1
      · rw [HPT.out]; exact hfl.out.2
theorem refat_pl (p : Int) (h0 : 0 ≤ p) (h1 : p < 65536) (w : World) : Calls Try.prog 9 #[.int .i64 p] w fun e w' => (∃ a b, e = .returned (.tuple #[.complex .f64 a b, .int .i64 0]) ∧ Pl a b p) ∧ w = w' := by
  have hf := fine_yes h0 h1
  go_enter Try.func9, Try.ntmps9
  go_wp2_with fail
  refine (fine_any p _).mono ?_; rintro e w' ⟨rfl, rfl⟩
  rw [hf]
  go_wp2_with fail
  refine (refpoint_any p h0 h1 _).mono ?_; rintro e w' ⟨⟨a, b, rfl, hp⟩, rfl⟩
  have HP := Lib.hid hp
  clear hp
  go_wp2
  go_ret2
  exact ⟨⟨a, b, rfl, HP.out⟩, rfl⟩
theorem refat_no (p : Int) (h : p < 0 ∨ 65536 ≤ p) (w : World) : Calls Try.prog 9 #[.int .i64 p] w fun e w' => e = .returned (.tuple #[.complex .f64 0 0, .int .i64 2]) ∧ w = w' := by
  have hf := fine_no h
  go_enter Try.func9, Try.ntmps9
  go_wp2_with fail
  refine (fine_any p _).mono ?_; rintro e w' ⟨rfl, rfl⟩
  rw [hf]
  go_wp2
  go_ret2
  exact ⟨rfl, rfl⟩
theorem refright_pl {a b : Nat} {p : Int} (h : Pl a b p) (w : World) : Calls Try.prog 13 #[.complex .f64 a b] w fun e w' => e = .returned (.bool true) ∧ w = w' := by
  have HP := Lib.hid h
  clear h
  go_enter Try.func13, Try.ntmps13
  go_wp2_with (go_at_call 11; refine (refof_pl HP.out _).mono ?_; rintro e w' ⟨rfl, rfl⟩)
  go_ret
  exact ⟨rfl, rfl⟩
theorem refright_not {a b : Nat} (ha : a < 18446744073709551616) (hb : b < 18446744073709551616) (h : ¬ Pt a b) (w : World) : Calls Try.prog 13 #[.complex .f64 a b] w fun e w' => e = .returned (.bool false) ∧ w = w' := by
  have HP := Lib.hid (fun w => refof_not ha hb h w)
  clear h ha hb
  go_enter Try.func13, Try.ntmps13
  go_wp2_with (go_at_call 11; refine (HP.out _).mono ?_; rintro e w' ⟨rfl, rfl⟩)
  go_ret
  exact ⟨rfl, rfl⟩
theorem refturned_pl {a b : Nat} {p : Int} (h : Pl a b p) (q : Int) (w : World) : Calls Try.prog 15 #[.complex .f64 a b, .int .i64 q] w fun e w' =>
    (∃ c d, e = .returned (.complex .f64 c d) ∧ Pl c d ((p + 16384 * q) % 65536)) ∧ w = w' := by
  have HP := Lib.hid h
  have h0 := h.low
  have h1 := h.high
  clear h
  obtain ⟨t1, t2, t3⟩ := tmod_facts4 q
  have HE : Hid ((p + 16384 * (q.tmod 4 % 4)) % 65536 = (p + 16384 * q) % 65536) := Lib.hid (by omega)
  clear t3
  go_enter Try.func15, Try.ntmps15
  go_wp2_with (first
    | (go_at_call 11; refine (refof_pl HP.out _).mono ?_; rintro e w' ⟨rfl, rfl⟩)
    | (go_at_call 17; refine (refplace_any _ _).mono ?_; rintro e w' ⟨rfl, rfl⟩)
    | (go_at_call 24; refine (refpoint_any _ (by omega) (by omega) _).mono ?_; rintro e w' ⟨⟨c, d, rfl, hp⟩, rfl⟩; have HC := Lib.hid hp; clear hp))
  go_ret
  have := HC.out
  rw [HE.out] at this
  exact ⟨⟨c, d, rfl, this⟩, rfl⟩
theorem refturned_not {a b : Nat} (ha : a < 18446744073709551616) (hb : b < 18446744073709551616) (h : ¬ Pt a b) (q : Int) (w : World) : Calls Try.prog 15 #[.complex .f64 a b, .int .i64 q] w fun e w' =>
    e = .returned (.complex .f64 0 0) ∧ w = w' := by
  have HP := Lib.hid (fun w => refof_not ha hb h w)
  clear h ha hb
  go_enter Try.func15, Try.ntmps15
  go_wp2_with (go_at_call 11; refine (HP.out _).mono ?_; rintro e w' ⟨rfl, rfl⟩)
  go_ret
  exact ⟨rfl, rfl⟩
end Go.Proofs.Ytaaonafokkdadaa
