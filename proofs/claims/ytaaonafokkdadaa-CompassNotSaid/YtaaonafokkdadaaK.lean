/-
  What is no place, no point; and the small functions of package compass.
-/
import Derived.Test.YtaaonafokkdadaaJ
namespace Go.Proofs.Ytaaonafokkdadaa
open Go Go.RowKit Go.Shelf
attribute [local go_sem] Oper.semAt_some run_store_complex

set_option maxHeartbeats 1000000 in
theorem right_no (a b : Nat) (x y : Int) (ha : Fl a x) (hb : Fl b y) (hx : x.natAbs ≤ 1000000) (hy : y.natAbs ≤ 1000000) (h : x.natAbs + y.natAbs ≠ 16384) (w : World) : Calls Try.prog 12 #[.complex .f64 a b] w fun e w' => e = .returned (.bool false) ∧ w = w' := by
  have HA := Lib.hid ha
  have HB := Lib.hid hb
  clear ha hb
  by_cases c1 : x.natAbs ≤ 16384
  · have d1 : decide (x.natAbs ≤ 16384) = true := decide_eq_true c1
    by_cases c2 : y.natAbs ≤ 16384
    · have d2 : decide (y.natAbs ≤ 16384) = true := decide_eq_true c2
      go_enter Try.func12, Try.ntmps12
      go_wp2_with fail
      refine (whole_any a x HA.out (by omega) _).mono ?_; rintro e w' ⟨rfl, rfl⟩
      rw [d1]
      go_wp2_with fail
      refine (whole_any b y HB.out (by omega) _).mono ?_; rintro e w' ⟨rfl, rfl⟩
      rw [d2]
      go_wp2_with fail
      refine (abs_any a x HA.out (by omega) _).mono ?_; rintro e w' ⟨⟨r, rfl, hr⟩, rfl⟩
      go_wp2_with fail
      refine (abs_any b y HB.out (by omega) _).mono ?_; rintro e w' ⟨⟨r2, rfl, hr2⟩, rfl⟩
      obtain ⟨s, hs, fs⟩ := hr.add hr2 (by omega)
      have hadd := fun w => run_float_arith (P := Try.prog) w .add 22 .f64 r r2 s hs
      have ho := ord fs quarter_Fl
      clear hs fs hr hr2
      rcases Int.lt_or_gt_of_ne (show (x.natAbs : Int) + (y.natAbs : Int) ≠ 16384 by omega) with c | c
      · rw [cmp_lt c] at ho
        clear c
        go_wp2
        go_ret
        exact ⟨rfl, rfl⟩
      · rw [cmp_gt c] at ho
        clear c
        go_wp2
        go_ret
        exact ⟨rfl, rfl⟩
    · have d2 : decide (y.natAbs ≤ 16384) = false := decide_eq_false c2
      go_enter Try.func12, Try.ntmps12
      go_wp2_with fail
      refine (whole_any a x HA.out (by omega) _).mono ?_; rintro e w' ⟨rfl, rfl⟩
      rw [d1]
      go_wp2_with fail
      refine (whole_any b y HB.out (by omega) _).mono ?_; rintro e w' ⟨rfl, rfl⟩
      rw [d2]
      go_wp2
      go_ret
      exact ⟨rfl, rfl⟩
  · have d1 : decide (x.natAbs ≤ 16384) = false := decide_eq_false c1
    go_enter Try.func12, Try.ntmps12
    go_wp2_with fail
    refine (whole_any a x HA.out (by omega) _).mono ?_; rintro e w' ⟨rfl, rfl⟩
    rw [d1]
    go_wp2
    go_ret
    exact ⟨rfl, rfl⟩

theorem place_any (n : Int) (w : World) : Calls Try.prog 16 #[.int .i64 n] w fun e w' => e = .returned (.int .i64 (n % 65536)) ∧ w = w' := by
  have hb : bits .and .i64 n 65535 = n % 65536 := by
    have h2 : (BitVec.ofInt 64 65535).toNat = 2 ^ 16 - 1 := by decide
    have h1 : (BitVec.ofInt 64 n).toNat = (n % (2 ^ 64 : Nat)).toNat := BitVec.toNat_ofInt n
    show IntKind.i64.wrap ((BitVec.ofInt 64 n &&& BitVec.ofInt 64 65535).toNat : Int) = _
    rw [BitVec.toNat_and, h1, h2, Nat.and_two_pow_sub_one_eq_mod]
    have h3 : (((n % (2 ^ 64 : Nat)).toNat % 2 ^ 16 : Nat) : Int) = n % 65536 := by omega
    rw [h3]
    simp [IntKind.wrap, IntKind.bits, IntKind.signed]
    omega
  go_enter Try.func16, Try.ntmps16
  go_wp2
  go_ret
  exact ⟨rfl, rfl⟩

set_option maxRecDepth 100000 in
set_option maxHeartbeats 1000000 in
theorem of_no (a b : Nat) (hR : ∀ w, Calls Try.prog 12 #[.complex .f64 a b] w fun e w' => e = .returned (.bool false) ∧ w = w') (w : World) :
    Calls Try.prog 10 #[.complex .f64 a b] w fun e w' => e = .returned (.tuple #[.int .i64 0, .int .i64 2]) ∧ Below w.heap.size w w' := by
  have HR := Lib.hid hR
  clear hR
  go_enter Try.func10, Try.ntmps10
  go_wp2
  refine wp_scope_labels (fun l a' w' => l = 0 ∧ w' = (w.alloc (.cells #[.int .i64 0] 3)).alloc (.cells #[.int .i64 0] 24) ∧ ∃ u6 u7 u8 : Value, a' = { tmps := #[.complex .f64 a b, undef, .pointer (some ⟨w.heap.size, 0, none⟩), .pointer (some ⟨w.heap.size + 1, 0, none⟩), undef, undef, u6, u7, u8, undef, undef, undef, undef, undef, undef, undef, undef, undef, undef, undef, undef, undef, undef, undef, undef, undef, undef, undef, undef], defers := [] }) (fun _ _ _ => 0) ?first ?pass
  case first =>
    go_wp2_with (go_at_call 12; refine (HR.out _).mono ?_; rintro e w' ⟨rfl, rfl⟩)
    go_step3
    exact ⟨rfl, rfl, _, _, _, rfl⟩
  case pass =>
    rintro l a' w' ⟨rfl, rfl, u6, u7, u8, rfl⟩
    refine ⟨_, rfl, ?_⟩
    go_wp2
    try rw [jumps_ret]
    have hc1 : ((w.alloc (.cells #[.int .i64 0] 3)).alloc (.cells #[.int .i64 2] 24)).cell? ⟨w.heap.size, 0, none⟩ = some (.int .i64 0) := ((Row.new w #[.int .i64 0] 3).alloc (.cells #[.int .i64 2] 24)).cell (j := 0) rfl
    have hc2 : ((w.alloc (.cells #[.int .i64 0] 3)).alloc (.cells #[.int .i64 2] 24)).cell? ⟨w.heap.size + 1, 0, none⟩ = some (.int .i64 2) := by
      simp
    have hbel : Below w.heap.size w ((w.alloc (.cells #[.int .i64 0] 3)).alloc (.cells #[.int .i64 2] 24)) := ((Below.refl _ w).alloc (Nat.le_refl _) _).alloc (by simp) _
    generalize (w.alloc (.cells #[.int .i64 0] 3)).alloc (.cells #[.int .i64 2] 24) = w2 at *
    refine bodyPost_ret (v := .tuple #[.int .i64 0, .int .i64 2]) ?_ rfl ⟨rfl, hbel⟩
    simp [results, Try.results10, go_sem, hc1, hc2]

set_option maxRecDepth 100000 in
set_option maxHeartbeats 1000000 in
theorem turned_no (a b : Nat) (q : Int) (hR : ∀ w, Calls Try.prog 12 #[.complex .f64 a b] w fun e w' => e = .returned (.bool false) ∧ w = w') (w : World) :
    Calls Try.prog 14 #[.complex .f64 a b, .int .i64 q] w fun e w' => e = .returned (.complex .f64 0 0) ∧ Below w.heap.size w w' := by
  have HR := Lib.hid hR
  clear hR
  go_enter Try.func14, Try.ntmps14
  go_wp2
  refine wp_scope_labels (fun l a' w' => l = 0 ∧ w' = (w.alloc (.cells #[.int .i64 q] 3)).alloc (.cells #[.complex .f64 0 0] 23) ∧ ∃ u7 u8 u9 : Value, a' = { tmps := #[.complex .f64 a b, .int .i64 q, undef, .pointer (some ⟨w.heap.size, 0, none⟩), .pointer (some ⟨w.heap.size + 1, 0, none⟩), undef, undef, u7, u8, u9, undef, undef, undef, undef, undef, undef, undef, undef, undef], defers := [] }) (fun _ _ _ => 0) ?first ?pass
  case first =>
    go_wp2_with (go_at_call 12; refine (HR.out _).mono ?_; rintro e w' ⟨rfl, rfl⟩)
    go_step3
    exact ⟨rfl, rfl, _, _, _, rfl⟩
  case pass =>
    rintro l a' w' ⟨rfl, rfl, u7, u8, u9, rfl⟩
    refine ⟨_, rfl, ?_⟩
    go_wp2
    try rw [jumps_ret]
    have hc2 : ((w.alloc (.cells #[.int .i64 q] 3)).alloc (.cells #[.complex .f64 0 0] 23)).cell? ⟨w.heap.size + 1, 0, none⟩ = some (.complex .f64 0 0) := by
      simp
    have hbel : Below w.heap.size w ((w.alloc (.cells #[.int .i64 q] 3)).alloc (.cells #[.complex .f64 0 0] 23)) := ((Below.refl _ w).alloc (Nat.le_refl _) _).alloc (by simp) _
    generalize (w.alloc (.cells #[.int .i64 q] 3)).alloc (.cells #[.complex .f64 0 0] 23) = w2 at *
    refine bodyPost_ret (v := .complex .f64 0 0) ?_ rfl ⟨rfl, hbel⟩
    simp [results, Try.results14, go_sem, hc2]

set_option maxRecDepth 100000 in
set_option maxHeartbeats 1000000 in
theorem at_no (p : Int) (h : p < 0 ∨ 65536 ≤ p) (w : World) :
    Calls Try.prog 8 #[.int .i64 p] w fun e w' => e = .returned (.tuple #[.complex .f64 0 0, .int .i64 2]) ∧ Below w.heap.size w w' := by
  go_enter Try.func8, Try.ntmps8
  go_wp2
  refine wp_scope_labels (fun l a' w' => l = 0 ∧ w' = ((w.alloc (.cells #[.int .i64 p] 3)).alloc (.cells #[.complex .f64 0 0] 23)).alloc (.cells #[.int .i64 0] 24) ∧ ∃ u6 u7 u8 u9 u10 u11 : Value, a' = { tmps := #[.int .i64 p, .pointer (some ⟨w.heap.size, 0, none⟩), .pointer (some ⟨w.heap.size + 1, 0, none⟩), .pointer (some ⟨w.heap.size + 1 + 1, 0, none⟩), undef, undef, u6, u7, u8, u9, u10, u11, undef, undef, undef, undef, undef, undef, undef, undef, undef, undef, undef, undef, undef, undef, undef, undef], defers := [] }) (fun _ _ _ => 0) ?first ?pass
  case first =>
    rcases h with h | h
    · go_wp2
      go_step3
      exact ⟨rfl, rfl, _, _, _, _, _, _, rfl⟩
    · have h2 : ¬ p < 0 := by omega
      go_wp2
      go_step3
      exact ⟨rfl, rfl, _, _, _, _, _, _, rfl⟩
  case pass =>
    rintro l a' w' ⟨rfl, rfl, u6, u7, u8, u9, u10, u11, rfl⟩
    refine ⟨_, rfl, ?_⟩
    go_wp2
    try rw [jumps_ret]
    have hc1 : (((w.alloc (.cells #[.int .i64 p] 3)).alloc (.cells #[.complex .f64 0 0] 23)).alloc (.cells #[.int .i64 2] 24)).cell? ⟨w.heap.size + 1, 0, none⟩ = some (.complex .f64 0 0) := by
      have := ((Row.new (w.alloc (.cells #[.int .i64 p] 3)) #[.complex .f64 0 0] 23).alloc (.cells #[.int .i64 2] 24)).cell (j := 0) (v := .complex .f64 0 0) rfl
      rwa [World.size_alloc] at this
    have hc2 : (((w.alloc (.cells #[.int .i64 p] 3)).alloc (.cells #[.complex .f64 0 0] 23)).alloc (.cells #[.int .i64 2] 24)).cell? ⟨w.heap.size + 1 + 1, 0, none⟩ = some (.int .i64 2) := by
      have := (Row.new ((w.alloc (.cells #[.int .i64 p] 3)).alloc (.cells #[.complex .f64 0 0] 23)) #[.int .i64 2] 24).cell (j := 0) (v := .int .i64 2) rfl
      rwa [World.size_alloc, World.size_alloc] at this
    have hbel : Below w.heap.size w (((w.alloc (.cells #[.int .i64 p] 3)).alloc (.cells #[.complex .f64 0 0] 23)).alloc (.cells #[.int .i64 2] 24)) := (((Below.refl _ w).alloc (Nat.le_refl _) _).alloc (by simp) _).alloc (by simp; omega) _
    generalize ((w.alloc (.cells #[.int .i64 p] 3)).alloc (.cells #[.complex .f64 0 0] 23)).alloc (.cells #[.int .i64 2] 24) = w2 at *
    refine bodyPost_ret (v := .tuple #[.complex .f64 0 0, .int .i64 2]) ?_ rfl ⟨rfl, hbel⟩
    simp [results, Try.results8, go_sem, hc1, hc2]

def quarterF (p : Int) : Int := if p < 0 ∨ 65536 ≤ p then -1 else p / 16384
end Go.Proofs.Ytaaonafokkdadaa
