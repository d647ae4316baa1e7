/-
  Frames opened: the reference's Open.
-/
import Derived.Test.YtclohcbhnlnddaaH
namespace Go.Proofs.Ytclohcbhnlnddaa
open Go.RowKit Go.Shelf

set_option maxRecDepth 100000 in
set_option maxHeartbeats 2000000 in
theorem refopen_short (a : Option Addr) (cap : Nat) (bs : List (BitVec 8)) (hl : bs.length < 8) (w : World) : Calls Try.prog 13 #[.slice a bs.length cap] w fun e w' =>
    ∃ v, e = .returned (.tuple #[v, .int .i64 (openE bs)]) ∧ (openE bs = 0 → Bytes w' v (payload bs)) ∧ (openE bs ≠ 0 → v = .slice none 0 0) ∧ Below w.heap.size w w' := by
  rw [openE_short hl]
  go_enter Try.func13, Try.ntmps13
  go_wp2
  go_ret2
  exact ⟨.slice none 0 0, rfl, (fun h => by cases h), (fun _ => rfl), Below.refl _ _⟩

set_option maxRecDepth 100000 in
set_option maxHeartbeats 1000000 in
theorem refopen_long (b off cap : Nat) (bs : List (BitVec 8)) (h8 : 8 ≤ bs.length) (hmax : bs.length ≤ 1000) (w : World) (hv : Bytes w (.slice (some ⟨b, off, none⟩) bs.length cap) bs) : Calls Try.prog 13 #[.slice (some ⟨b, off, none⟩) bs.length cap] w fun e w' =>
    ∃ v, e = .returned (.tuple #[v, .int .i64 (openE bs)]) ∧ (openE bs = 0 → Bytes w' v (payload bs)) ∧ (openE bs ≠ 0 → v = .slice none 0 0) ∧ Below w.heap.size w w' := by
  obtain ⟨m, hm⟩ : ∃ m, bs.length = m + 8 := ⟨bs.length - 8, by omega⟩
  have hcap : m + 8 ≤ cap := by have := hv.shape; obtain ⟨_, _, e, hc⟩ := this; cases e; omega
  have hpl : (payload bs).length = m := by rw [payload_length h8]; omega
  have HV := Lib.hid hv
  have HO0 := Lib.hid (OwnB.lit (Below.refl _ w) [] #[] rfl 0 rfl (by simp))
  have hsub := (hv.sub 4 m (by omega) (cap - 4) (by omega)).below HO0.out.below
  rw [show m = m + 8 - 4 - 4 by omega] at hsub
  have HSUB := Lib.hid hsub
  have hpay : (bs.drop 4).take (m + 8 - 4 - 4) = payload bs := by unfold payload; rw [hm]; rfl
  rw [hpay] at HSUB
  have HPL := Lib.hid hpl
  clear hv hsub hpay hpl
  rw [hm] at HV ⊢
  by_cases hbig : 112 < m
  · have hE : openE bs = 12 := openE_no (by omega) (opens_big (by omega))
    rw [hE]
    go_enter Try.func13, Try.ntmps13
    go_wp2_with (first
      | (at_builtin; refine wpList_append_bytes rfl _ _ rfl rfl rfl HO0.out _ (payload bs) rfl HSUB.out (by rw [HPL.out]; simp only [List.length_nil]; omega) ?_; intro v1 w1 hO1; have HO1 := Lib.hid hO1; clear hO1; obtain ⟨a1, c1, hv1, -⟩ := HO1.out.shape; rw [List.nil_append] at hv1; subst hv1)
      | (go_at_call 11; refine (refclose_no _ _ (payload bs) (by rw [HPL.out]; omega) _).mono ?_; rintro e w' ⟨rfl, rfl⟩))
    go_ret2
    exact ⟨.slice none 0 0, rfl, (fun h => by cases h), (fun _ => rfl), HO1.out.below⟩
  · cases ho : opens bs with
    | true =>
      have hE := openE_yes ho
      have he : decide (closeF (payload bs) = bs) = true := by rw [decide_eq_true_eq]; exact (opens_parts ho).2.2.symm
      rw [← strB_eq] at he
      have HE := Lib.hid hE
      clear ho hE
      go_enter Try.func13, Try.ntmps13
      go_wp2_with (first
        | (at_builtin; refine wpList_append_bytes rfl _ _ rfl rfl rfl HO0.out _ (payload bs) rfl HSUB.out (by rw [HPL.out]; simp only [List.length_nil]; omega) ?_; intro v1 w1 hO1; have HO1 := Lib.hid hO1; clear hO1; obtain ⟨a1, c1, hv1, -⟩ := HO1.out.shape; rw [List.nil_append] at hv1; subst hv1)
        | (go_at_call 11; refine (refclose_yes _ _ (payload bs) (by rw [HPL.out]; omega) _ (by have := HO1.out.bytes; rwa [List.nil_append] at this)).mono ?_; rintro e w2 ⟨v2, rfl, hv2, hb2⟩; have HO2 := Lib.hid (HO1.out.later hb2); have r1 := run_strB _ _ _ hv2; have r2 := run_strB _ _ _ (HV.out.below HO2.out.below); obtain ⟨a2, c2, hv2', -⟩ := hv2.shape; subst hv2'; clear hb2 hv2))
      go_ret2
      exact ⟨_, by rw [HE.out]; rfl, (fun _ => by have := HO2.out.bytes; rwa [List.nil_append] at this), (fun h => absurd HE.out h), HO2.out.below⟩
    | false =>
      have hE := openE_no (by omega) ho
      have he : decide (closeF (payload bs) = bs) = false := by
        rw [decide_eq_false_iff_not]; intro e
        unfold opens at ho
        rw [decide_eq_true (by omega), decide_eq_true (by omega), decide_eq_true e.symm] at ho
        cases ho
      rw [← strB_eq] at he
      have HE := Lib.hid hE
      clear ho hE
      go_enter Try.func13, Try.ntmps13
      go_wp2_with (first
        | (at_builtin; refine wpList_append_bytes rfl _ _ rfl rfl rfl HO0.out _ (payload bs) rfl HSUB.out (by rw [HPL.out]; simp only [List.length_nil]; omega) ?_; intro v1 w1 hO1; have HO1 := Lib.hid hO1; clear hO1; obtain ⟨a1, c1, hv1, -⟩ := HO1.out.shape; rw [List.nil_append] at hv1; subst hv1)
        | (go_at_call 11; refine (refclose_yes _ _ (payload bs) (by rw [HPL.out]; omega) _ (by have := HO1.out.bytes; rwa [List.nil_append] at this)).mono ?_; rintro e w2 ⟨v2, rfl, hv2, hb2⟩; have HO2 := Lib.hid (HO1.out.later hb2); have r1 := run_strB _ _ _ hv2; have r2 := run_strB _ _ _ (HV.out.below HO2.out.below); obtain ⟨a2, c2, hv2', -⟩ := hv2.shape; subst hv2'; clear hb2 hv2))
      go_ret2
      exact ⟨.slice none 0 0, by rw [HE.out]; rfl, (fun h => by rw [HE.out] at h; cases h), (fun _ => rfl), HO2.out.below⟩
end Go.Proofs.Ytclohcbhnlnddaa
