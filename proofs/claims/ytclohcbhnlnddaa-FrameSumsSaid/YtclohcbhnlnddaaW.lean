/-
  The law FrameApart: the walk.
-/
import Derived.Test.YtclohcbhnlnddaaX
import Derived.Deep.RegionLaw
namespace Go.Proofs.Ytclohcbhnlnddaa
open Go.RowKit Go.Shelf

theorem step_append_bytes {ops : Array Oper} {o : Oper} {a : Act} {w : World} {K : Act → World → Prop} {Q : Exit → Act → World → Prop} {E : Prop} (hgd : o.guard = none) (s x : Operand)
    (ho : o.op = .call { callee := .builtin .append, args := #[s, x], argTypes := #[23, 23] }) (hty : o.type = 23) {w0 : World} {v : Value} {xs : List (BitVec 8)} (hs : a.eval s = v) (h : OwnB w0 w v xs) (xv : Value) (l : List (BitVec 8))
    (hx : a.eval x = xv) (hl : Bytes w xv l) (hsm : xs.length + l.length ≤ 100000)
    (hK : ∀ v' w', OwnB w0 w' v' (xs ++ l) → K (a.put o.dst v') w') : if Region.wanted o (yielded ops a.tmps) = true then Oper.wp Try.prog o a w K Q else E := by
  have hw : Region.wanted o (yielded ops a.tmps) = true := by simp [Region.wanted, hgd]
  rw [if_pos hw]
  obtain ⟨v', w', hr, h2⟩ := append_run h xv l hl hsm
  unfold Oper.wp execOp
  simp only [ho, hty, resolve, invoke, builtin, Sem.run_bind, Sem.run_pure, Result.andThen_ok, List.map_toArray, List.map_cons, List.map_nil, hs, hx, hr]
  exact hK v' w' h2
theorem below_drew (w : World) : Below w.heap.size w w.drew := ⟨rfl, rfl, rfl, Nat.le_refl _, fun _ _ => rfl⟩
theorem bytes_head {w : World} {b off n cap : Nat} {l : List (BitVec 8)} (h : Bytes w (.slice (some ⟨b, off, none⟩) n cap) l) (m : Nat) (hm : m ≤ l.length) (hc : m ≤ cap) : Bytes w (.slice (some ⟨b, off, none⟩) m cap) (l.take m) := by
  have := h.sub 0 m (by omega) cap hc
  rwa [Nat.add_zero, List.drop_zero] at this

theorem bytes_cap {w : World} {a : Option Addr} {n cap : Nat} {l : List (BitVec 8)} (h : Bytes w (.slice a n cap) l) : n ≤ cap := by
  obtain ⟨a', cap', e, hc, -⟩ := h
  injection e with e1 e2 e3
  omega
theorem same_d (v1 v2 : Value) (l m : List (BitVec 8)) (d : Bool) (hd : decide (l = m) = d) (w : World) (h1 : Bytes w v1 l) (h2 : Bytes w v2 m) : Calls Try.prog 18 #[v1, v2] w fun e w' => e = .returned (.bool d) ∧ w = w' := by
  subst hd; exact same_any v1 v2 l m w h1 h2

set_option maxRecDepth 100000 in
set_option maxHeartbeats 2000000 in
theorem apart_in (a1 a2 : Option Addr) (c1 c2 : Nat) (p q : List (BitVec 8)) (n : Nat) (hp : p.length = n) (hq : q.length = n) (hn0 : 0 < n) (hn : n ≤ 112) (at_ : Int) (w0 : World) (w : World) (h : Good w0 w)
    (hv1 : Bytes w (.slice a1 n c1) p) (hv2 : Bytes w (.slice a2 n c2) q) :
    Calls Try.prog 8 #[.slice a1 n c1, .slice a2 n c2, .int .i64 at_] w fun e w' => e = .returned (.bool true) ∧ Good w0 w' := by
  have HP := Lib.hid hp
  have HQ := Lib.hid hq
  have HCE1 := Lib.hid (closeE_yes (p := p) (by omega))
  have HCE2 := Lib.hid (closeE_yes (p := q) (by omega))
  obtain ⟨F, hF⟩ : ∃ F, F = closeF p := ⟨_, rfl⟩
  obtain ⟨G, hG⟩ : ∃ G, G = closeF q := ⟨_, rfl⟩
  have HCL1 : Hid (closeL p = F) := Lib.hid (by unfold closeL; rw [if_pos HCE1.out, hF])
  have HCL2 : Hid (closeL q = G) := Lib.hid (by unfold closeL; rw [if_pos HCE2.out, hG])
  have HFl : Hid (F.length = n + 8) := Lib.hid (by rw [hF, closeF_length, hp])
  have HGl : Hid (G.length = n + 8) := Lib.hid (by rw [hG, closeF_length, hq])
  have hs : sizeF (n : Int) = (n : Int) + 8 := by unfold sizeF; rw [if_neg (by omega)]
  obtain ⟨d, hd⟩ : ∃ d, d = decide (p = q) := ⟨_, rfl⟩
  have HD1 : Hid (decide (F = G) = d) := Lib.hid (by
    rw [hd, decide_eq_decide, hF, hG]
    exact ⟨close_inj, fun e => by rw [e]⟩)
  have HD2 : Hid (decide (p = q) = d) := Lib.hid hd.symm
  obtain ⟨t1, t2, t3, t4⟩ := tmod_size at_ ((n : Int) + 1) (by omega)
  rw [← Int.add_assoc] at t3 t4
  obtain ⟨A, hA⟩ := Int.eq_ofNat_of_zero_le t3
  have hA2 : A ≤ n := by omega
  have HFo : Hid (opens F = true) := Lib.hid (by rw [hF]; exact opens_close (by omega))
  have HV1 := Lib.hid hv1
  have HV2 := Lib.hid hv2
  have HG := Lib.hid h
  clear hv1 hv2 h hp hq hF hG hd
  go_enter Try.func8, Try.ntmps8
  go_wp2_with fail
  refine (close_l _ p _ HV1.out).mono ?_; rintro e w1 ⟨b1, k1, rfl, hu1, hb1⟩
  have HG1 := Lib.hid (HG.out.below hb1)
  have HV11 := Lib.hid (HV1.out.below hb1)
  have HV21 := Lib.hid (HV2.out.below hb1)
  rw [HCL1.out, HFl.out] at hu1 ⊢
  rw [HCE1.out]
  have hk1 : n + 8 ≤ k1 := bytes_cap hu1
  obtain ⟨bb1, off1, rfl⟩ := hu1.some (by rw [HFl.out]; omega)
  have HU1 := Lib.hid hu1
  clear hb1 hu1
  go_wp2_with fail
  refine (close_l _ q _ HV21.out).mono ?_; rintro e w2 ⟨b2, k2, rfl, hu2, hb2⟩
  have HG2 := Lib.hid (HG1.out.below hb2)
  have HV12 := Lib.hid (HV11.out.below hb2)
  have HV22 := Lib.hid (HV21.out.below hb2)
  have HU12 := Lib.hid (HU1.out.below hb2)
  rw [HCL2.out, HGl.out] at hu2 ⊢
  rw [HCE2.out]
  have hk2 : n + 8 ≤ k2 := bytes_cap hu2
  obtain ⟨bb2, off2, rfl⟩ := hu2.some (by rw [HGl.out]; omega)
  have HU2 := Lib.hid hu2
  clear hb2 hu2
  go_wp2_with (go_at_call 19; refine (size_any _ _).mono ?_; rintro e w' ⟨rfl, rfl⟩)
  refine (same_d _ _ F G d HD1.out _ HU12.out HU2.out).mono ?_; rintro e w' ⟨rfl, rfl⟩
  go_wp2_with fail
  refine (same_d _ _ p q d HD2.out _ HV12.out HV22.out).mono ?_; rintro e w' ⟨rfl, rfl⟩
  have HO0 := Lib.hid ((OwnB.lit (Below.refl _ w2) [] #[] rfl 0 rfl (by simp)).later (below_drew _))
  have HX1 := Lib.hid ((bytes_head HU12.out (4 + A) (by rw [HFl.out]; omega) (by omega)).below HO0.out.below)
  have HX2 := Lib.hid ((HU2.out.sub (4 + A) (n + 8 - (4 + A)) (by rw [HGl.out]; omega) (k2 - (4 + A)) (by omega)))
  obtain ⟨C, hC⟩ : ∃ C, C = (([] : List (BitVec 8)) ++ F.take (4 + A)) ++ (G.drop (4 + A)).take (n + 8 - (4 + A)) := ⟨_, rfl⟩
  have hCl : C.length = n + 8 := by
    rw [hC]
    simp only [List.nil_append, List.length_append, List.length_take, List.length_drop, HFl.out, HGl.out]
    omega
  have HCl := Lib.hid hCl
  have HC := Lib.hid hC
  have HL1 : Hid (([] : List (BitVec 8)).length + (F.take (4 + A)).length ≤ 100000) := Lib.hid (by
    simp only [List.length_nil, List.length_take, HFl.out]; omega)
  have HL2 : Hid ((([] : List (BitVec 8)) ++ F.take (4 + A)).length + ((G.drop (4 + A)).take (n + 8 - (4 + A))).length ≤ 100000) := Lib.hid (by
    rw [← List.length_append, ← hC, hCl]; omega)
  clear hCl hC
  have q1 : (0 : Int) ≤ 4 + (A : Int) := by omega
  have q2 : (4 : Int) + (A : Int) ≤ (k1 : Int) := by omega
  have q3 : ((4 : Int) + (A : Int)).toNat = 4 + A := by omega
  have q4 : (4 : Int) + (A : Int) ≤ (n : Int) + 8 := by omega
  have q5 : ¬ k2 = 4 + A := by omega
  have q6 : (4 : Int) + (A : Int) ≤ (k2 : Int) := by omega
  have q7 : 4 + A ≤ n + 8 := by omega
  go_wp2
  go_region_law (first
    | (refine step_append_bytes rfl _ _ rfl rfl rfl HO0.out _ (F.take (4 + A)) rfl HX1.out HL1.out ?_; intro v7 w7 hO7; have HO7 := Lib.hid hO7; clear hO7)
    | (refine step_append_bytes rfl _ _ rfl rfl rfl HO7.out _ ((G.drop (4 + A)).take (n + 8 - (4 + A))) rfl (HX2.out.below HO7.out.below) HL2.out ?_; intro v8 w8 hO8; rw [← HC.out] at hO8; obtain ⟨g, c8, hv8⟩ := hO8.form (by rw [HCl.out]; omega); rw [HCl.out] at hv8; subst hv8; have HO8 := Lib.hid hO8; clear hO8))
  have HG8 := Lib.hid (HG2.out.below HO8.out.below)
  have HV18 := Lib.hid (HV12.out.below HO8.out.below)
  have HV28 := Lib.hid (HV22.out.below HO8.out.below)
  cases ho : opens C with
  | true =>
    have HE := Lib.hid (openE_yes ho)
    have HPL : Hid ((payload C).length = n) := Lib.hid (by rw [payload_length (by rw [HCl.out]; omega), HCl.out]; omega)
    have HOL : Hid (openL C = payload C) := Lib.hid (by unfold openL; rw [if_pos HE.out])
    have HSUB : Hid (Bytes w8 (.slice (some ⟨g, 4, none⟩) (n + 8 - 4 - 4) (c8 - 4)) (payload C)) := Lib.hid (by
      have hb := HO8.out.bytes
      have hc := bytes_cap hb
      have := hb.sub 4 (n + 8 - 4 - 4) (by rw [HCl.out]; omega) (c8 - 4) (by omega)
      rw [Nat.zero_add] at this
      have e : (C.drop 4).take (n + 8 - 4 - 4) = payload C := by unfold payload; rw [HCl.out]; rfl
      rwa [e] at this)
    have hc8 : n + 8 ≤ c8 := bytes_cap HO8.out.bytes
    clear ho
    go_wp2_with fail
    refine (open_l _ C _ HO8.out.bytes).mono ?_; rintro e w9 ⟨a9, k9, rfl, hu9, hb9⟩
    rw [HOL.out, HPL.out] at hu9 ⊢
    rw [HE.out]
    have HG9 := Lib.hid (HG8.out.below hb9)
    have HV19 := Lib.hid (HV18.out.below hb9)
    have HV29 := Lib.hid (HV28.out.below hb9)
    have HS9 := Lib.hid (HSUB.out.below hb9)
    have HU9 := Lib.hid hu9
    clear hb9 hu9
    go_wp2_with fail
    refine (same_yes _ _ _ _ HU9.out HS9.out).mono ?_; rintro e w' ⟨rfl, rfl⟩
    go_wp2_with fail
    refine (same_d _ _ p q d HD2.out _ HV19.out HV29.out).mono ?_; rintro e w' ⟨rfl, rfl⟩
    cases d
    all_goals (go_wp2_with (go_at_call 9; refine (wakes_g w0 _ HG9.out).mono ?_; rintro e w' ⟨rfl, hg⟩))
    all_goals (go_ret; exact ⟨rfl, hg⟩)
  | false =>
    have HE := Lib.hid (openE_no (by rw [HCl.out]; omega) ho)
    have hd : d = false := by
      cases hd : d with
      | false => rfl
      | true =>
        have hFG : F = G := by have := HD1.out; rw [hd] at this; exact of_decide_eq_true this
        have e : C = F := by
          rw [HC.out, ← hFG, List.nil_append, List.take_of_length_le (l := F.drop (4 + A)) (by rw [List.length_drop, HFl.out]; omega), List.take_append_drop]
        rw [e, HFo.out] at ho
        cases ho
    subst hd
    clear ho
    go_wp2_with fail
    refine (open_l _ C _ HO8.out.bytes).mono ?_; rintro e w9 ⟨a9, k9, rfl, -, hb9⟩
    rw [HE.out]
    generalize (openL C).length = n9 at *
    have HG9 := Lib.hid (HG8.out.below hb9)
    have HV19 := Lib.hid (HV18.out.below hb9)
    have HV29 := Lib.hid (HV28.out.below hb9)
    clear hb9
    go_wp2_with fail
    refine (same_d _ _ p q false HD2.out _ HV19.out HV29.out).mono ?_; rintro e w' ⟨rfl, rfl⟩
    go_wp2_with (go_at_call 9; refine (wakes_g w0 _ HG9.out).mono ?_; rintro e w' ⟨rfl, hg⟩)
    go_ret
    exact ⟨rfl, hg⟩

set_option maxRecDepth 100000 in
set_option maxHeartbeats 2000000 in
/-- Payloads that are not as long as each other, or have no byte. -/
theorem apart_off (a1 a2 : Option Addr) (c1 c2 : Nat) (p q : List (BitVec 8)) (n m : Nat) (hp : p.length = n) (hq : q.length = m) (hn0 : ((n : Int) != (m : Int)) = true ∨ n = 0) (hn : n ≤ 112) (hm : m ≤ 112) (at_ : Int) (w0 : World) (w : World) (h : Good w0 w)
    (hv1 : Bytes w (.slice a1 n c1) p) (hv2 : Bytes w (.slice a2 m c2) q) :
    Calls Try.prog 8 #[.slice a1 n c1, .slice a2 m c2, .int .i64 at_] w fun e w' => e = .returned (.bool true) ∧ Good w0 w' := by
  have HCE1 := Lib.hid (closeE_yes (p := p) (by omega))
  have HCE2 := Lib.hid (closeE_yes (p := q) (by omega))
  obtain ⟨F, hF⟩ : ∃ F, F = closeF p := ⟨_, rfl⟩
  obtain ⟨G, hG⟩ : ∃ G, G = closeF q := ⟨_, rfl⟩
  have HCL1 : Hid (closeL p = F) := Lib.hid (by unfold closeL; rw [if_pos HCE1.out, hF])
  have HCL2 : Hid (closeL q = G) := Lib.hid (by unfold closeL; rw [if_pos HCE2.out, hG])
  have HFl : Hid (F.length = n + 8) := Lib.hid (by rw [hF, closeF_length, hp])
  have HGl : Hid (G.length = m + 8) := Lib.hid (by rw [hG, closeF_length, hq])
  have hs : sizeF (n : Int) = (n : Int) + 8 := by unfold sizeF; rw [if_neg (by omega)]
  obtain ⟨d, hd⟩ : ∃ d, d = decide (p = q) := ⟨_, rfl⟩
  have HD1 : Hid (decide (F = G) = d) := Lib.hid (by
    rw [hd, decide_eq_decide, hF, hG]
    exact ⟨close_inj, fun e => by rw [e]⟩)
  have HD2 : Hid (decide (p = q) = d) := Lib.hid hd.symm
  have HV1 := Lib.hid hv1
  have HV2 := Lib.hid hv2
  have HG := Lib.hid h
  clear hv1 hv2 h hp hq hF hG hd
  go_enter Try.func8, Try.ntmps8
  go_wp2_with fail
  refine (close_l _ p _ HV1.out).mono ?_; rintro e w1 ⟨b1, k1, rfl, hu1, hb1⟩
  have HG1 := Lib.hid (HG.out.below hb1)
  have HV11 := Lib.hid (HV1.out.below hb1)
  have HV21 := Lib.hid (HV2.out.below hb1)
  rw [HCL1.out, HFl.out] at hu1 ⊢
  rw [HCE1.out]
  have HU1 := Lib.hid hu1
  clear hb1 hu1
  go_wp2_with fail
  refine (close_l _ q _ HV21.out).mono ?_; rintro e w2 ⟨b2, k2, rfl, hu2, hb2⟩
  have HG2 := Lib.hid (HG1.out.below hb2)
  have HV12 := Lib.hid (HV11.out.below hb2)
  have HV22 := Lib.hid (HV21.out.below hb2)
  have HU12 := Lib.hid (HU1.out.below hb2)
  rw [HCL2.out, HGl.out] at hu2 ⊢
  rw [HCE2.out]
  have HU2 := Lib.hid hu2
  clear hb2 hu2
  go_wp2_with (go_at_call 19; refine (size_any _ _).mono ?_; rintro e w' ⟨rfl, rfl⟩)
  refine (same_d _ _ F G d HD1.out _ HU12.out HU2.out).mono ?_; rintro e w' ⟨rfl, rfl⟩
  go_wp2_with fail
  refine (same_d _ _ p q d HD2.out _ HV12.out HV22.out).mono ?_; rintro e w' ⟨rfl, rfl⟩
  rcases hn0 with hn0 | rfl
  · go_wp2_with (go_at_call 9; refine (wakes_g w0 _ HG2.out).mono ?_; rintro e w' ⟨rfl, hg⟩)
    go_ret
    exact ⟨rfl, hg⟩
  · cases hx : ((0 : Int) != (m : Int)) with
    | true =>
      go_wp2_with (go_at_call 9; refine (wakes_g w0 _ HG2.out).mono ?_; rintro e w' ⟨rfl, hg⟩)
      go_ret
      exact ⟨rfl, hg⟩
    | false =>
      go_wp2_with (go_at_call 9; refine (wakes_g w0 _ HG2.out).mono ?_; rintro e w' ⟨rfl, hg⟩)
      go_ret
      exact ⟨rfl, hg⟩

theorem apart_walk (v1 : Value) (p : List (BitVec 8)) (_hm1 : ∀ b ∈ p, b = b) (hn1 : p.length ≤ maxLen) (v2 : Value) (q : List (BitVec 8)) (_hm2 : ∀ b ∈ q, b = b) (hn2 : q.length ≤ maxLen) (at_ : Int) (w0 : World) (w : World) (h : Good w0 w)
    (hv1 : Bytes w v1 p) (hv2 : Bytes w v2 q) :
    Calls Try.prog 8 #[v1, v2, .int .i64 at_] w fun e w' => e = .returned (.bool true) ∧ Good w0 w' := by
  obtain ⟨a1, c1, rfl, -⟩ := hv1.shape
  obtain ⟨a2, c2, rfl, -⟩ := hv2.shape
  by_cases hl1 : p.length ≤ 112
  · by_cases hl2 : q.length ≤ 112
    · by_cases hne : p.length = q.length
      · by_cases h0 : p.length = 0
        · exact apart_off a1 a2 c1 c2 p q _ _ rfl rfl (.inr h0) hl1 hl2 at_ w0 w h hv1 hv2
        · rw [← hne] at hv2 ⊢
          exact apart_in a1 a2 c1 c2 p q _ rfl hne.symm (by omega) hl1 at_ w0 w h hv1 hv2
      · exact apart_off a1 a2 c1 c2 p q _ _ rfl rfl (.inl (by rw [bne_iff_ne]; omega)) hl1 hl2 at_ w0 w h hv1 hv2
    · clear hv1 hv2
      unfold maxLen at hn1 hn2
      go_enter Try.func8, Try.ntmps8
      go_wp2_with (go_at_call 9; refine (wakes_g w0 _ h).mono ?_; rintro e w' ⟨rfl, hg⟩)
      go_ret
      exact ⟨rfl, hg⟩
  · clear hv1 hv2
    unfold maxLen at hn1 hn2
    go_enter Try.func8, Try.ntmps8
    go_wp2_with (go_at_call 9; refine (wakes_g w0 _ h).mono ?_; rintro e w' ⟨rfl, hg⟩)
    go_ret
    exact ⟨rfl, hg⟩
end Go.Proofs.Ytclohcbhnlnddaa
