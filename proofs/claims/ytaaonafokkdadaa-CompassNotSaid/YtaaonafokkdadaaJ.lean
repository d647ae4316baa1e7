/-
  Places of points: package compass's Of.
-/
import Derived.Test.YtaaonafokkdadaaI
namespace Go.Proofs.Ytaaonafokkdadaa
open Go Go.RowKit Go.Shelf
attribute [local go_sem] Oper.semAt_some run_store_complex

set_option maxRecDepth 100000 in
set_option maxHeartbeats 1000000 in
theorem of_in (a b : Nat) (x y : Int) (ha : Fl a x) (hb : Fl b y) (h : x.natAbs + y.natAbs = 16384) (k0 : Nat) (hk4 : k0 < 4) (hyes : 0 < (rot x y k0).1 ∧ 0 ≤ (rot x y k0).2) (hno : ∀ k, k < k0 → ¬ (0 < (rot x y k).1 ∧ 0 ≤ (rot x y k).2)) (w : World) :
    CallsIn Fence.wide 3 Try.prog 10 #[.complex .f64 a b] w fun e w' =>
    e = .returned (.tuple #[.int .i64 (-(k0 : Int) % 4 * 16384 + (rot x y k0).2), .int .i64 0]) ∧ Below w.heap.size w w' := by
  refine callsIn_of_wp_marks Try.func10 rfl trivial ?_ rfl
  simp only [Try.ntmps10, List.size_toArray, List.length_cons, List.length_nil, Nat.reduceAdd, Nat.reduceSub, Array.replicate_succ, Array.replicate_zero, List.push_toArray, List.append_toArray, List.nil_append, List.cons_append]
  refine wpIn_wide.2 ?_
  have HA := Lib.hid ha
  have HB0 := Lib.hid hb
  have HH := Lib.hid h
  have HYES := Lib.hid hyes
  have HNO := Lib.hid hno
  clear ha hb h hyes hno
  go_wp2
  refine wp_scope_labels (fun _ _ _ => False) (fun _ _ _ => 0) ?first (fun _ _ _ h => h.elim)
  go_wp2_with (first
    | (go_at_call 12; refine (right_yes a b x y HA.out HB0.out HH.out _).mono ?_; rintro e w' ⟨rfl, rfl⟩)
    | (go_at_call 22; refine (around_any _ _ _).mono ?_; rintro e w' ⟨rfl, rfl⟩))
  have r1 : Row (((w.alloc (.cells #[.int .i64 0] 3)).alloc (.cells #[.int .i64 0] 24)).alloc (.cells #[.complex .f64 a b] 23)) w.heap.size #[.int .i64 0] 3 := ((Row.new w _ 3).alloc _).alloc _
  have r2 : Row (((w.alloc (.cells #[.int .i64 0] 3)).alloc (.cells #[.int .i64 0] 24)).alloc (.cells #[.complex .f64 a b] 23)) (w.heap.size + 1) #[.int .i64 0] 24 := by
    have := (Row.new (w.alloc (.cells #[.int .i64 0] 3)) #[.int .i64 0] 24).alloc (.cells #[.complex .f64 a b] 23)
    simpa using this
  have r4 : Row (((w.alloc (.cells #[.int .i64 0] 3)).alloc (.cells #[.int .i64 0] 24)).alloc (.cells #[.complex .f64 a b] 23)) (w.heap.size + 2) #[.complex .f64 a b] 23 := by
    have := Row.new ((w.alloc (.cells #[.int .i64 0] 3)).alloc (.cells #[.int .i64 0] 24)) #[.complex .f64 a b] 23
    simpa using this
  have hbel : Below w.heap.size w (((w.alloc (.cells #[.int .i64 0] 3)).alloc (.cells #[.int .i64 0] 24)).alloc (.cells #[.complex .f64 a b] 23)) := (((Below.refl _ w).alloc (Nat.le_refl _) _).alloc (by simp) _).alloc (by simp; omega) _
  have hsize : (((w.alloc (.cells #[.int .i64 0] 3)).alloc (.cells #[.int .i64 0] 24)).alloc (.cells #[.complex .f64 a b] 23)).heap.size = w.heap.size + 3 := by simp
  simp only [Nat.add_assoc, Nat.reduceAdd]
  generalize ((w.alloc (.cells #[.int .i64 0] 3)).alloc (.cells #[.int .i64 0] 24)).alloc (.cells #[.complex .f64 a b] 23) = w3 at *
  obtain ⟨m, hm⟩ : ∃ m, w.heap.size = m := ⟨_, rfl⟩
  rw [hm] at r1 r2 r4 hsize ⊢
  have HM := Lib.hid hm
  have HB := Lib.hid hbel
  clear hm hbel
  have hx : x.natAbs ≤ 1000000 := by have := HH.out; omega
  have hy : y.natAbs ≤ 1000000 := by have := HH.out; omega
  have HW : Hid (∀ k, Fl (wd a b x y k).1 (rot x y k).1 ∧ Fl (wd a b x y k).2 (rot x y k).2) := Lib.hid (fun k => wd_fl HA.out HB0.out hx hy k)
  have HBD : Hid (∀ k, (rot x y k).1.natAbs ≤ 1000000 ∧ (rot x y k).2.natAbs ≤ 1000000) := Lib.hid (fun k => rot_bd x y hx hy k)
  obtain ⟨R, hR⟩ : ∃ R, R = -(k0 : Int) % 4 * 16384 + (rot x y k0).2 := ⟨_, rfl⟩
  have HR := Lib.hid hR
  clear hR
  refine (wpIn_wide (n := 3)).1 (wpIn_range rfl (by omega) (gf := 28) (lb := #[.pointer (some ⟨m + 2, 0, none⟩)]) rfl trivial (enters_of Try.func28 (by kernel_rfl) rfl)
    (around_iter (3 - 1) (m + 2) a b x y HA.out HB0.out hx hy w3 r4) (fun _ => rfl)
    (fun k => k = m ∨ k = m + 1) (fun k hk => by omega) (fun x hx => by subst hx; omega) (fun x hx => by subst hx; omega)
    (fun k W => k ≤ k0 ∧ Row W m #[.int .i64 0] 3 ∧ Row W (m + 1) #[.int .i64 0] 24)
    (fun c _ W => c = .ret ∧ Row W m #[.int .i64 R] 3 ∧ Row W (m + 1) #[.int .i64 0] 24)
    (fun k A B h hb => ⟨h.1, h.2.1.same (hb _ (.inl rfl)), h.2.2.same (hb _ (.inr rfl))⟩)
    (fun c k A B h hb => ⟨h.1, h.2.1.same (hb _ (.inl rfl)), h.2.2.same (hb _ (.inr rfl))⟩) ⟨Nat.zero_le _, r1, r2⟩
    (fun k => { tmps := #[.complex .f64 a b, undef, .pointer (some ⟨m, 0, none⟩), .pointer (some ⟨m + 1, 0, none⟩), .int .i64 k, .complex .f64 (wd a b x y k).1 (wd a b x y k).2, .complex .f64 a b, .bool true, .bool false, .complex .f64 a b, .func (.func 28) #[] #[.pointer (some ⟨m + 2, 0, none⟩)], .int .i64 k, .complex .f64 (wd a b x y k).1 (wd a b x y k).2, undef, undef, undef, undef, undef, undef, undef, undef, undef, undef, undef, undef, undef, undef, undef, undef], defers := [] }) ?assign ?body ?done ?stop)
  case assign =>
    intro l k W K hK
    simp only [encZ]
    gi_wp2
    exact hK
  case body =>
    intro l k W hk _ hI
    obtain ⟨hkq, i1, i2⟩ := hI
    have hc1 := i1.cell (j := 0) (v := .int .i64 0) rfl
    have hc2 := i2.cell (j := 0) (v := .int .i64 0) rfl
    have hf1 := i1.free 0
    have hf2 := i2.free 0
    have o1 := ord (HW.out k).1 zero_Fl
    have o2 := ord (HW.out k).2 zero_Fl
    by_cases hkq2 : k = k0
    · subst hkq2
      rw [cmp_gt HYES.out.1] at o1
      have hcv := fun w => run_convert_float_int (P := Try.prog) w 22 3 .f64 .i64 (wd a b x y k).2 (rot x y k).2 (by kernel_rfl) Try.underlying3 ((HW.out k).2.toInt (by have := HBD.out k; omega))
      have hbd := (HBD.out k).2
      have hbd1 : -1000000 ≤ (rot x y k).2 := by omega
      have hbd2 : (rot x y k).2 ≤ 1000000 := by omega
      have hR2 := HR.out
      have t1 : Turns (fun x => x = m) W (W.setCell ⟨m, 0, none⟩ (.int .i64 R)) := (Turns.refl (fun x => x = m) W).setCell (p := ⟨m, 0, none⟩) (.inr rfl) _
      have t2 : Turns (fun x => x = m + 1) (W.setCell ⟨m, 0, none⟩ (.int .i64 R)) ((W.setCell ⟨m, 0, none⟩ (.int .i64 R)).setCell ⟨m + 1, 0, none⟩ (.int .i64 0)) := (Turns.refl (fun x => x = m + 1) _).setCell (p := ⟨m + 1, 0, none⟩) (.inr rfl) _
      have HT1 := Lib.hid t1
      have HT2 := Lib.hid t2
      clear t1 t2 hbd
      generalize (rot x y k).2 = Yk at *
      by_cases hz : Yk = 0
      · subst hz
        rw [cmp_eq rfl] at o2
        simp only [Int.add_zero] at hR2
        subst hR2
        generalize hE : wd a b x y k = E at *
        gi_wp2
        exact ⟨(HT1.out.mono fun x _ h => .inl h).trans (HT2.out.mono fun x _ h => .inr h), rfl, (i1.set 0 _).turns HT2.out (by omega), (i2.turns HT1.out (by omega)).set 0 _⟩
      · rw [cmp_gt (by have := HYES.out.2; omega)] at o2
        subst hR2
        generalize hE : wd a b x y k = E at *
        gi_wp2
        exact ⟨(HT1.out.mono fun x _ h => .inl h).trans (HT2.out.mono fun x _ h => .inr h), rfl, (i1.set 0 _).turns HT2.out (by omega), (i2.turns HT1.out (by omega)).set 0 _⟩
    · have hno := HNO.out k (by omega)
      generalize hE : wd a b x y k = E at *
      rcases Int.lt_trichotomy (rot x y k).1 0 with c | c | c
      · rw [cmp_lt c] at o1
        clear o2 hno c
        gi_wp2
        exact ⟨Turns.refl _ _, by omega, i1, i2⟩
      · rw [cmp_eq c] at o1
        clear o2 hno c
        gi_wp2
        exact ⟨Turns.refl _ _, by omega, i1, i2⟩
      · rw [cmp_gt c] at o1
        rw [cmp_lt (by omega)] at o2
        clear hno c
        gi_wp2
        exact ⟨Turns.refl _ _, by omega, i1, i2⟩
  case done =>
    intro D W hD ht hI hK
    exact absurd hI.1 (by omega)
  case stop =>
    intro D c k W hD _ ht hx hK
    obtain ⟨rfl, i1, i2⟩ := hx
    have hs := ht.size
    have ht1 : Turns (fun x => x = D) W (W.putObj D (.deferred none)) := (Turns.refl (fun x => x = D) _).putObj (.inr rfl) _
    have hcr := (i1.turns ht1 (by omega)).cell (j := 0) (v := .int .i64 R) rfl
    have hcr2 := (i2.turns ht1 (by omega)).cell (j := 0) (v := .int .i64 0) rfl
    refine wpIn_wide.2 ?_
    go_wp2
    try rw [jumps_ret]
    refine ⟨by simp, .inl ⟨_, _, rfl, run_takeDeferred hK, ?_⟩⟩
    refine ⟨.tuple #[.int .i64 R, .int .i64 0], by simp [results, Try.results10, go_sem, hcr, hcr2], by rw [HR.out], ?_⟩
    have hbel := HB.out
    rw [HM.out] at hbel ⊢
    exact (hbel.trans (ht.below (by omega) (fun k hk => by rintro (h | h) <;> omega))).trans (ht1.below (by omega) (fun k hk => by omega))
end Go.Proofs.Ytaaonafokkdadaa
