/-
  Points of places: package compass's At.
-/
import Derived.Test.YtaaonafokkdadaaF
namespace Go.Proofs.Ytaaonafokkdadaa
open Go Go.RowKit Go.Shelf
attribute [local go_sem] Oper.semAt_some run_store_complex

/-- A place's point. -/
def ptF (p : Int) : Int × Int := rot (16384 - p % 16384) (p % 16384) (p / 16384).toNat

theorem wd_own (X Y : Int) (k : Nat) : wd (fl X) (fl Y) X Y k = (fl (rot X Y k).1, fl (rot X Y k).2) := by
  cases k <;> rfl
theorem pt_bd (p : Int) (h0 : 0 ≤ p) (h1 : p < 65536) : (16384 - p % 16384).natAbs ≤ 1000000 ∧ (p % 16384).natAbs ≤ 1000000 := by omega

set_option maxRecDepth 100000 in
set_option maxHeartbeats 1000000 in
theorem at_in (p : Int) (h0 : 0 ≤ p) (h1 : p < 65536) (w : World) : CallsIn Fence.wide 3 Try.prog 8 #[.int .i64 p] w fun e w' =>
    e = .returned (.tuple #[.complex .f64 (fl (ptF p).1) (fl (ptF p).2), .int .i64 0]) ∧ Below w.heap.size w w' := by
  refine callsIn_of_wp_marks Try.func8 rfl trivial ?_ rfl
  simp only [Try.ntmps8, List.size_toArray, List.length_cons, List.length_nil, Nat.reduceAdd, Nat.reduceSub, Array.replicate_succ, Array.replicate_zero, List.push_toArray, List.append_toArray, List.nil_append, List.cons_append]
  refine wpIn_wide.2 ?_
  obtain ⟨q0, hq0⟩ : ∃ q0 : Nat, p / 16384 = (q0 : Int) := ⟨(p / 16384).toNat, by omega⟩
  have hq4 : q0 < 4 := by omega
  have HPT : Hid (ptF p = rot (16384 - p % 16384) (p % 16384) q0) := Lib.hid (by unfold ptF; rw [hq0]; rfl)
  obtain ⟨X, hX⟩ : ∃ X, X = 16384 - p % 16384 := ⟨_, rfl⟩
  obtain ⟨Y, hY⟩ : ∃ Y, Y = p % 16384 := ⟨_, rfl⟩
  have HBD : Hid (X.natAbs ≤ 1000000 ∧ Y.natAbs ≤ 1000000) := Lib.hid (by rw [hX, hY]; exact pt_bd p h0 h1)
  have HQ := Lib.hid hq0
  go_wp2
  refine wp_scope_labels (fun _ _ _ => False) (fun _ _ _ => 0) ?first (fun _ _ _ h => h.elim)
  go_wp2_with (go_at_call 22; refine (around_any _ _ _).mono ?_; rintro e w' ⟨rfl, rfl⟩)
  rw [show floatOfInt FloatKind.f64 (16384 - p % 16384) = fl X by rw [hX]; rfl, show floatOfInt FloatKind.f64 (p % 16384) = fl Y by rw [hY]; rfl]
  have r1 : Row ((((w.alloc (.cells #[.int .i64 p] 3)).alloc (.cells #[.complex .f64 0 0] 23)).alloc (.cells #[.int .i64 0] 24)).alloc (.cells #[.complex .f64 (fl X) (fl Y)] 23)) w.heap.size #[.int .i64 p] 3 := (((Row.new w _ 3).alloc _).alloc _).alloc _
  have r2 : Row ((((w.alloc (.cells #[.int .i64 p] 3)).alloc (.cells #[.complex .f64 0 0] 23)).alloc (.cells #[.int .i64 0] 24)).alloc (.cells #[.complex .f64 (fl X) (fl Y)] 23)) (w.heap.size + 1) #[.complex .f64 0 0] 23 := by
    have := ((Row.new (w.alloc (.cells #[.int .i64 p] 3)) #[.complex .f64 0 0] 23).alloc (.cells #[.int .i64 0] 24)).alloc (.cells #[.complex .f64 (fl X) (fl Y)] 23)
    simpa using this
  have r3 : Row ((((w.alloc (.cells #[.int .i64 p] 3)).alloc (.cells #[.complex .f64 0 0] 23)).alloc (.cells #[.int .i64 0] 24)).alloc (.cells #[.complex .f64 (fl X) (fl Y)] 23)) (w.heap.size + 2) #[.int .i64 0] 24 := by
    have := (Row.new ((w.alloc (.cells #[.int .i64 p] 3)).alloc (.cells #[.complex .f64 0 0] 23)) #[.int .i64 0] 24).alloc (.cells #[.complex .f64 (fl X) (fl Y)] 23)
    simpa using this
  have r4 : Row ((((w.alloc (.cells #[.int .i64 p] 3)).alloc (.cells #[.complex .f64 0 0] 23)).alloc (.cells #[.int .i64 0] 24)).alloc (.cells #[.complex .f64 (fl X) (fl Y)] 23)) (w.heap.size + 3) #[.complex .f64 (fl X) (fl Y)] 23 := by
    have := Row.new (((w.alloc (.cells #[.int .i64 p] 3)).alloc (.cells #[.complex .f64 0 0] 23)).alloc (.cells #[.int .i64 0] 24)) #[.complex .f64 (fl X) (fl Y)] 23
    simpa using this
  have hbel : Below w.heap.size w ((((w.alloc (.cells #[.int .i64 p] 3)).alloc (.cells #[.complex .f64 0 0] 23)).alloc (.cells #[.int .i64 0] 24)).alloc (.cells #[.complex .f64 (fl X) (fl Y)] 23)) := ((((Below.refl _ w).alloc (Nat.le_refl _) _).alloc (by simp) _).alloc (by simp; omega) _).alloc (by simp; omega) _
  have hsize : ((((w.alloc (.cells #[.int .i64 p] 3)).alloc (.cells #[.complex .f64 0 0] 23)).alloc (.cells #[.int .i64 0] 24)).alloc (.cells #[.complex .f64 (fl X) (fl Y)] 23)).heap.size = w.heap.size + 4 := by simp
  simp only [Nat.add_assoc, Nat.reduceAdd]
  generalize (((w.alloc (.cells #[.int .i64 p] 3)).alloc (.cells #[.complex .f64 0 0] 23)).alloc (.cells #[.int .i64 0] 24)).alloc (.cells #[.complex .f64 (fl X) (fl Y)] 23) = w3 at *
  obtain ⟨m, hm⟩ : ∃ m, w.heap.size = m := ⟨_, rfl⟩
  rw [hm] at r1 r2 r3 r4 hsize ⊢
  have HM := Lib.hid hm
  have HB := Lib.hid hbel
  clear hm hbel
  have ha : Fl (fl X) X := fl_Fl X (by have := HBD.out; omega)
  have hb : Fl (fl Y) Y := fl_Fl Y (by have := HBD.out; omega)
  rw [← hX, ← hY] at HPT
  clear hX hY
  refine (wpIn_wide (n := 3)).1 (wpIn_range rfl (by omega) (gf := 28) (lb := #[.pointer (some ⟨m + 3, 0, none⟩)]) rfl trivial (enters_of Try.func28 (by kernel_rfl) rfl)
    (around_iter (3 - 1) (m + 3) _ _ X Y ha hb HBD.out.1 HBD.out.2 w3 r4) (fun _ => rfl)
    (fun k => k = m ∨ k = m + 1 ∨ k = m + 2) (fun k hk => by omega) (fun x hx => by subst hx; omega) (fun x hx => by subst hx; omega)
    (fun k W => k ≤ q0 ∧ Row W m #[.int .i64 p] 3 ∧ Row W (m + 1) #[.complex .f64 0 0] 23 ∧ Row W (m + 2) #[.int .i64 0] 24)
    (fun c _ W => c = .ret ∧ Row W (m + 1) #[.complex .f64 (fl (ptF p).1) (fl (ptF p).2)] 23 ∧ Row W (m + 2) #[.int .i64 0] 24)
    (fun k A B h hb => ⟨h.1, h.2.1.same (hb _ (.inl rfl)), h.2.2.1.same (hb _ (.inr (.inl rfl))), h.2.2.2.same (hb _ (.inr (.inr rfl)))⟩)
    (fun c k A B h hb => ⟨h.1, h.2.1.same (hb _ (.inr (.inl rfl))), h.2.2.same (hb _ (.inr (.inr rfl)))⟩) ⟨Nat.zero_le _, r1, r2, r3⟩
    (fun k => { tmps := #[.int .i64 p, .pointer (some ⟨m, 0, none⟩), .pointer (some ⟨m + 1, 0, none⟩), .pointer (some ⟨m + 2, 0, none⟩), .int .i64 k, .complex .f64 (wd (fl X) (fl Y) X Y k).1 (wd (fl X) (fl Y) X Y k).2, .int .i64 p, .bool (decide (p < 0)), .bool (decide (p < 0)), .int .i64 p, .bool (decide (65536 ≤ p)), .bool (decide (p < 0) || decide (65536 ≤ p)), .int .i64 p, .int .i64 (p % 16384), .int .i64 (16384 - p % 16384), .float .f64 (fl X), .int .i64 p, .int .i64 (p % 16384), .float .f64 (fl Y), .complex .f64 (fl X) (fl Y), .func (.func 28) #[] #[.pointer (some ⟨m + 3, 0, none⟩)], .int .i64 k, .complex .f64 (wd (fl X) (fl Y) X Y k).1 (wd (fl X) (fl Y) X Y k).2, undef, undef, undef, undef, undef], defers := [] }) ?assign ?body ?done ?stop)
  case assign =>
    intro l k W K hK
    simp only [encZ]
    gi_wp2
    exact hK
  case body =>
    intro l k W hk _ hI
    obtain ⟨hkq, i1, i2, i3⟩ := hI
    have hc1 := i1.cell (j := 0) (v := .int .i64 p) rfl
    have hc2 := i2.cell (j := 0) (v := .complex .f64 0 0) rfl
    have hc3 := i3.cell (j := 0) (v := .int .i64 0) rfl
    have hf2 := i2.free 0
    have hf3 := i3.free 0
    by_cases hkq2 : k = q0
    · subst hkq2
      have hq : ((k : Int) == p / 16384) = true := by rw [beq_iff_eq, HQ.out]
      have HWD : Hid ((wd (fl X) (fl Y) X Y k).1 = fl (ptF p).1 ∧ (wd (fl X) (fl Y) X Y k).2 = fl (ptF p).2) := Lib.hid (by rw [wd_own, HPT.out]; exact ⟨rfl, rfl⟩)
      rw [HWD.out.1, HWD.out.2]
      gi_wp2
      have t1 : Turns (fun x => x = m + 1) W (W.setCell ⟨m + 1, 0, none⟩ (.complex .f64 (fl (ptF p).1) (fl (ptF p).2))) := (Turns.refl (fun x => x = m + 1) W).setCell (p := ⟨m + 1, 0, none⟩) (.inr rfl) _
      have t2 : Turns (fun x => x = m + 2) (W.setCell ⟨m + 1, 0, none⟩ (.complex .f64 (fl (ptF p).1) (fl (ptF p).2))) ((W.setCell ⟨m + 1, 0, none⟩ (.complex .f64 (fl (ptF p).1) (fl (ptF p).2))).setCell ⟨m + 2, 0, none⟩ (.int .i64 0)) := (Turns.refl (fun x => x = m + 2) _).setCell (p := ⟨m + 2, 0, none⟩) (.inr rfl) _
      exact ⟨(t1.mono fun x _ h => .inr (.inl h)).trans (t2.mono fun x _ h => .inr (.inr h)), rfl, (i2.set 0 _).turns t2 (by omega), (i3.turns t1 (by omega)).set 0 _⟩
    · have hq : ((k : Int) == p / 16384) = false := by rw [beq_eq_false_iff_ne, HQ.out]; omega
      gi_wp2
      exact ⟨Turns.refl _ _, by omega, i1, i2, i3⟩
  case done =>
    intro D W hD ht hI hK
    exact absurd hI.1 (by omega)
  case stop =>
    intro D c k W hD _ ht hx hK
    obtain ⟨rfl, i2, i3⟩ := hx
    have hs := ht.size
    have ht1 : Turns (fun x => x = D) W (W.putObj D (.deferred none)) := (Turns.refl (fun x => x = D) _).putObj (.inr rfl) _
    have hcr := (i2.turns ht1 (by omega)).cell (j := 0) (v := .complex .f64 (fl (ptF p).1) (fl (ptF p).2)) rfl
    have hcr3 := (i3.turns ht1 (by omega)).cell (j := 0) (v := .int .i64 0) rfl
    refine wpIn_wide.2 ?_
    go_wp2
    try rw [jumps_ret]
    refine ⟨by simp, .inl ⟨_, _, rfl, run_takeDeferred hK, ?_⟩⟩
    refine ⟨.tuple #[.complex .f64 (fl (ptF p).1) (fl (ptF p).2), .int .i64 0], by simp [results, Try.results8, go_sem, hcr, hcr3], rfl, ?_⟩
    have hbel := HB.out
    rw [HM.out] at hbel ⊢
    exact (hbel.trans (ht.below (by omega) (fun k hk => by rintro (h | h) <;> omega))).trans (ht1.below (by omega) (fun k hk => by omega))
end Go.Proofs.Ytaaonafokkdadaa
