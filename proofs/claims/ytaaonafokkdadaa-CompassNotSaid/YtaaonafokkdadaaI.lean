/-
  Points turned: package compass's Turned.
-/
import Derived.Test.YtaaonafokkdadaaH
namespace Go.Proofs.Ytaaonafokkdadaa
open Go Go.RowKit Go.Shelf
attribute [local go_sem] Oper.semAt_some run_store_complex

theorem bits_three (n : Int) : bits .and .i64 n 3 = n % 4 := by
  have h2 : (BitVec.ofInt 64 3).toNat = 2 ^ 2 - 1 := by decide
  have h1 : (BitVec.ofInt 64 n).toNat = (n % (2 ^ 64 : Nat)).toNat := BitVec.toNat_ofInt n
  show IntKind.i64.wrap ((BitVec.ofInt 64 n &&& BitVec.ofInt 64 3).toNat : Int) = _
  rw [BitVec.toNat_and, h1, h2, Nat.and_two_pow_sub_one_eq_mod]
  have h3 : (((n % (2 ^ 64 : Nat)).toNat % 2 ^ 2 : Nat) : Int) = n % 4 := by omega
  rw [h3]
  simp [IntKind.wrap, IntKind.bits, IntKind.signed]
  omega

set_option maxRecDepth 100000 in
set_option maxHeartbeats 1000000 in
theorem turned_in (a b : Nat) (x y : Int) (ha : Fl a x) (hb : Fl b y) (h : x.natAbs + y.natAbs = 16384) (q : Int) (w : World) : CallsIn Fence.wide 3 Try.prog 14 #[.complex .f64 a b, .int .i64 q] w fun e w' =>
    e = .returned (.complex .f64 (wd a b x y (q % 4).toNat).1 (wd a b x y (q % 4).toNat).2) ∧ Below w.heap.size w w' := by
  refine callsIn_of_wp_marks Try.func14 rfl trivial ?_ rfl
  simp only [Try.ntmps14, List.size_toArray, List.length_cons, List.length_nil, Nat.reduceAdd, Nat.reduceSub, Array.replicate_succ, Array.replicate_zero, List.push_toArray, List.append_toArray, List.nil_append, List.cons_append]
  refine wpIn_wide.2 ?_
  obtain ⟨k0, hk0⟩ : ∃ k0 : Nat, q % 4 = (k0 : Int) := ⟨(q % 4).toNat, by omega⟩
  have hk4 : k0 < 4 := by omega
  have hbq := bits_three q
  rw [hk0] at hbq
  have HK : Hid ((q % 4).toNat = k0) := Lib.hid (by omega)
  have HA := Lib.hid ha
  have HB0 := Lib.hid hb
  have HH := Lib.hid h
  clear ha hb h
  go_wp2
  refine wp_scope_labels (fun _ _ _ => False) (fun _ _ _ => 0) ?first (fun _ _ _ h => h.elim)
  go_wp2_with (first
    | (go_at_call 12; refine (right_yes a b x y HA.out HB0.out HH.out _).mono ?_; rintro e w' ⟨rfl, rfl⟩)
    | (go_at_call 22; refine (around_any _ _ _).mono ?_; rintro e w' ⟨rfl, rfl⟩))
  have r1 : Row (((w.alloc (.cells #[.int .i64 q] 3)).alloc (.cells #[.complex .f64 0 0] 23)).alloc (.cells #[.complex .f64 a b] 23)) w.heap.size #[.int .i64 q] 3 := ((Row.new w _ 3).alloc _).alloc _
  have r2 : Row (((w.alloc (.cells #[.int .i64 q] 3)).alloc (.cells #[.complex .f64 0 0] 23)).alloc (.cells #[.complex .f64 a b] 23)) (w.heap.size + 1) #[.complex .f64 0 0] 23 := by
    have := (Row.new (w.alloc (.cells #[.int .i64 q] 3)) #[.complex .f64 0 0] 23).alloc (.cells #[.complex .f64 a b] 23)
    simpa using this
  have r4 : Row (((w.alloc (.cells #[.int .i64 q] 3)).alloc (.cells #[.complex .f64 0 0] 23)).alloc (.cells #[.complex .f64 a b] 23)) (w.heap.size + 2) #[.complex .f64 a b] 23 := by
    have := Row.new ((w.alloc (.cells #[.int .i64 q] 3)).alloc (.cells #[.complex .f64 0 0] 23)) #[.complex .f64 a b] 23
    simpa using this
  have hbel : Below w.heap.size w (((w.alloc (.cells #[.int .i64 q] 3)).alloc (.cells #[.complex .f64 0 0] 23)).alloc (.cells #[.complex .f64 a b] 23)) := (((Below.refl _ w).alloc (Nat.le_refl _) _).alloc (by simp) _).alloc (by simp; omega) _
  have hsize : (((w.alloc (.cells #[.int .i64 q] 3)).alloc (.cells #[.complex .f64 0 0] 23)).alloc (.cells #[.complex .f64 a b] 23)).heap.size = w.heap.size + 3 := by simp
  simp only [Nat.add_assoc, Nat.reduceAdd]
  generalize ((w.alloc (.cells #[.int .i64 q] 3)).alloc (.cells #[.complex .f64 0 0] 23)).alloc (.cells #[.complex .f64 a b] 23) = w3 at *
  obtain ⟨m, hm⟩ : ∃ m, w.heap.size = m := ⟨_, rfl⟩
  rw [hm] at r1 r2 r4 hsize ⊢
  have HM := Lib.hid hm
  have HB := Lib.hid hbel
  clear hm hbel
  obtain ⟨R, hR⟩ : ∃ R, R = wd a b x y k0 := ⟨_, rfl⟩
  have HR := Lib.hid hR
  refine (wpIn_wide (n := 3)).1 (wpIn_range rfl (by omega) (gf := 28) (lb := #[.pointer (some ⟨m + 2, 0, none⟩)]) rfl trivial (enters_of Try.func28 (by kernel_rfl) rfl)
    (around_iter (3 - 1) (m + 2) a b x y HA.out HB0.out (by have := HH.out; omega) (by have := HH.out; omega) w3 r4) (fun _ => rfl)
    (fun k => k = m ∨ k = m + 1) (fun k hk => by omega) (fun x hx => by subst hx; omega) (fun x hx => by subst hx; omega)
    (fun k W => k ≤ k0 ∧ Row W m #[.int .i64 q] 3 ∧ Row W (m + 1) #[.complex .f64 0 0] 23)
    (fun c _ W => c = .ret ∧ Row W (m + 1) #[.complex .f64 R.1 R.2] 23)
    (fun k A B h hb => ⟨h.1, h.2.1.same (hb _ (.inl rfl)), h.2.2.same (hb _ (.inr rfl))⟩)
    (fun c k A B h hb => ⟨h.1, h.2.same (hb _ (.inr rfl))⟩) ⟨Nat.zero_le _, r1, r2⟩
    (fun k => { tmps := #[.complex .f64 a b, .int .i64 q, undef, .pointer (some ⟨m, 0, none⟩), .pointer (some ⟨m + 1, 0, none⟩), .int .i64 k, .complex .f64 (wd a b x y k).1 (wd a b x y k).2, .complex .f64 a b, .bool true, .bool false, .complex .f64 a b, .func (.func 28) #[] #[.pointer (some ⟨m + 2, 0, none⟩)], .int .i64 k, .complex .f64 (wd a b x y k).1 (wd a b x y k).2, undef, undef, undef, undef, undef], defers := [] }) ?assign ?body ?done ?stop)
  case assign =>
    intro l k W K hK
    simp only [encZ]
    gi_wp2
    exact hK
  case body =>
    intro l k W hk _ hI
    obtain ⟨hkq, i1, i2⟩ := hI
    have hc1 := i1.cell (j := 0) (v := .int .i64 q) rfl
    have hc2 := i2.cell (j := 0) (v := .complex .f64 0 0) rfl
    have hf2 := i2.free 0
    by_cases hkq2 : k = k0
    · subst hkq2
      rw [← hR]
      clear hR
      gi_wp2
      exact ⟨(Turns.refl (fun x => x = m ∨ x = m + 1) W).setCell (p := ⟨m + 1, 0, none⟩) (.inr (.inr rfl)) _, rfl, i2.set 0 _⟩
    · have hq : ((k : Int) == (k0 : Int)) = false := by rw [beq_eq_false_iff_ne]; omega
      clear hR
      gi_wp2
      exact ⟨Turns.refl _ _, by omega, i1, i2⟩
  case done =>
    intro D W hD ht hI hK
    exact absurd hI.1 (by omega)
  case stop =>
    intro D c k W hD _ ht hx hK
    obtain ⟨rfl, i2⟩ := hx
    have hs := ht.size
    have ht1 : Turns (fun x => x = D) W (W.putObj D (.deferred none)) := (Turns.refl (fun x => x = D) _).putObj (.inr rfl) _
    have hcr := (i2.turns ht1 (by omega)).cell (j := 0) (v := .complex .f64 R.1 R.2) rfl
    clear hR
    refine wpIn_wide.2 ?_
    go_wp2
    try rw [jumps_ret]
    refine ⟨by simp, .inl ⟨_, _, rfl, run_takeDeferred hK, ?_⟩⟩
    refine ⟨.complex .f64 R.1 R.2, by simp [results, Try.results14, go_sem, hcr], by rw [HK.out, HR.out], ?_⟩
    have hbel := HB.out
    rw [HM.out] at hbel ⊢
    exact (hbel.trans (ht.below (by omega) (fun k hk => by rintro (h | h) <;> omega))).trans (ht1.below (by omega) (fun k hk => by omega))
end Go.Proofs.Ytaaonafokkdadaa
