/-
  The law FrameOnly: the plain facts, and the walk.
-/
import Derived.Test.YtclohcbhnlnddaaT
import Derived.Deep.AppendLies
namespace Go.Proofs.Ytclohcbhnlnddaa
open Go.RowKit Go.Shelf

theorem OwnB.form {w0 w : World} {v : Value} {xs : List (BitVec 8)} (h : OwnB w0 w v xs) (hn : 0 < xs.length) : ∃ g cap, v = .slice (some ⟨g, 0, none⟩) xs.length cap := by
  obtain ⟨g, cap, e, -, -⟩ := h.row.form hn
  exact ⟨g, cap, e⟩
theorem OwnB.set {w0 w : World} {g cap : Nat} {xs : List (BitVec 8)} (h : OwnB w0 w (.slice (some ⟨g, 0, none⟩) xs.length cap) xs) (j : Nat) (x : BitVec 8) :
    OwnB w0 (w.setCell ⟨g, j, none⟩ (encb x)) (.slice (some ⟨g, 0, none⟩) xs.length cap) (xs.set j x) := by
  obtain ⟨h1, h2⟩ := h.row.stored j (encb x)
  refine ⟨?_, h.below.grown h2 h.below.size (fun k hk => (World.ownsRow.lt h.row k (by simpa [Value.ownBlock] using hk)).1)⟩
  rw [List.map_set, List.length_set]
  exact h1
theorem OwnB.cell {w0 w : World} {g cap : Nat} {xs : List (BitVec 8)} (h : OwnB w0 w (.slice (some ⟨g, 0, none⟩) xs.length cap) xs) {j : Nat} {x : BitVec 8} (hx : xs[j]? = some x) : w.cell? ⟨g, j, none⟩ = some (.int .u8 (x.toNat : Int)) := by
  have hj : j < xs.length := by
    rcases Nat.lt_or_ge j xs.length with h | h
    · exact h
    · rw [List.getElem?_eq_none h] at hx; cases hx
  rw [h.row.cellAt j (by omega), List.getElem?_map, hx]
  rfl
theorem OwnB.free {w0 w : World} {g cap : Nat} {xs : List (BitVec 8)} (h : OwnB w0 w (.slice (some ⟨g, 0, none⟩) xs.length cap) xs) (j : Nat) : w.frozen? ⟨g, j, none⟩ = false := h.row.frozenAt j

theorem xor_self_ne {x y : BitVec 8} (hy : y ≠ 0#8) : x ^^^ y ≠ x := by
  intro h
  have := congrArg (x ^^^ ·) h
  simp only [← BitVec.xor_assoc, BitVec.xor_self, BitVec.zero_xor] at this
  exact hy this
/-- Of a frame one byte of which is another one nothing is opened. -/
theorem only_no {bs : List (BitVec 8)} (ho : opens bs = true) {i : Nat} {x y : BitVec 8} (hx : bs[i]? = some x) (hy : y ≠ 0#8) : opens (bs.set i (x ^^^ y)) = false := by
  rw [Bool.eq_false_iff]; intro hD
  have e := burst_same bs (bs.set i (x ^^^ y)) (by simp) ones (opens_null ho) (opens_null hD) (8 * i) (fun p hp => by
    rw [bitsOf_get, bitsOf_get, List.getElem?_set_ne (by omega)])
  have hi : i < bs.length := by
    rcases Nat.lt_or_ge i bs.length with h | h
    · exact h
    · rw [List.getElem?_eq_none h] at hx; cases hx
  have e2 : (bs.set i (x ^^^ y))[i]? = some (x ^^^ y) := List.getElem?_set_self hi
  rw [← e, hx] at e2
  exact xor_self_ne hy (Option.some.inj e2).symm
theorem tmod_size (a : Int) (n : Int) (h1 : 1 ≤ n) : -n < a.tmod n ∧ a.tmod n < n ∧ 0 ≤ (a.tmod n + n) % n ∧ (a.tmod n + n) % n < n := by
  have h2 := Int.tmod_lt_of_pos a (show (0 : Int) < n by omega)
  have h3 := Int.lt_tmod_of_pos a (show (0 : Int) < n by omega)
  exact ⟨h3, h2, Int.emod_nonneg _ (by omega), Int.emod_lt_of_pos _ (by omega)⟩

set_option maxRecDepth 100000 in
set_option maxHeartbeats 1000000 in
theorem only_shut (a : Option Addr) (cap : Nat) (bs : List (BitVec 8)) (hl : bs.length ≤ 300) (hE : openE bs ≠ 0) (at_ y : Int) (w0 : World) (w : World) (h : Good w0 w) (hv : Bytes w (.slice a bs.length cap) bs) :
    Calls Try.prog 5 #[.slice a bs.length cap, .int .i64 at_, .int .u8 y] w fun e w' => e = .returned (.bool true) ∧ Good w0 w' := by
  have hL : (openL bs).length = 0 := by simp [openL, hE]
  have HV := Lib.hid hv
  have HG := Lib.hid h
  have HL := Lib.hid hL
  clear hv h hL
  by_cases h8 : bs.length < 8
  · have hEE := openE_short h8
    clear hE
    go_enter Try.func5, Try.ntmps5
    go_wp2_with fail
    refine (open_l _ bs _ HV.out).mono ?_; rintro e w1 ⟨a1, k1, rfl, -, hb1⟩
    have HG1 := Lib.hid (HG.out.below hb1)
    rw [hEE, HL.out]
    clear hb1 hEE
    go_wp2_with (go_at_call 9; refine (wakes_g w0 _ HG1.out).mono ?_; rintro e w' ⟨rfl, hg⟩)
    go_ret
    exact ⟨rfl, hg⟩
  · have ho : opens bs = false := by
      rw [Bool.eq_false_iff]; intro ho; exact hE (openE_yes ho)
    have hEE := openE_no h8 ho
    clear hE ho
    go_enter Try.func5, Try.ntmps5
    go_wp2_with fail
    refine (open_l _ bs _ HV.out).mono ?_; rintro e w1 ⟨a1, k1, rfl, -, hb1⟩
    have HG1 := Lib.hid (HG.out.below hb1)
    rw [hEE, HL.out]
    clear hb1 hEE
    go_wp2_with (go_at_call 9; refine (wakes_g w0 _ HG1.out).mono ?_; rintro e w' ⟨rfl, hg⟩)
    go_ret
    refine ⟨?_, hg⟩
    show Ending.returned (.bool (!decide ((bs.length : Int) < 8))) = _
    rw [decide_eq_false (by omega)]
    rfl

set_option maxRecDepth 100000 in
set_option maxHeartbeats 1000000 in
theorem only_open (a : Option Addr) (cap : Nat) (bs : List (BitVec 8)) (ho : opens bs = true) (at_ : Int) (y : BitVec 8) (w0 : World) (w : World) (h : Good w0 w) (hv : Bytes w (.slice a bs.length cap) bs) :
    Calls Try.prog 5 #[.slice a bs.length cap, .int .i64 at_, .int .u8 (y.toNat : Int)] w fun e w' => e = .returned (.bool true) ∧ Good w0 w' := by
  obtain ⟨h8, h120, hcl⟩ := opens_parts ho
  have hp : (payload bs).length ≤ 112 := by rw [payload_length h8]; omega
  have HEE := Lib.hid (openE_yes ho)
  have HOL : Hid (openL bs = payload bs) := Lib.hid (by unfold openL; rw [if_pos (openE_yes ho)])
  have HCE := Lib.hid (closeE_yes hp)
  have HCL : Hid (closeL (payload bs) = bs) := Lib.hid (by unfold closeL; rw [if_pos (closeE_yes hp)]; exact hcl.symm)
  have HV := Lib.hid hv
  have HG := Lib.hid h
  have HO := Lib.hid ho
  clear hv h ho hcl hp
  have y0 : (0 : Int) ≤ (y.toNat : Int) := by omega
  have y1 : (y.toNat : Int) ≤ 255 := by have := y.isLt; omega
  by_cases hy : y = 0#8
  · subst hy
    have ez : (((0#8 : BitVec 8).toNat : Nat) : Int) = 0 := by decide
    rw [ez]
    clear y0 y1 ez
    go_enter Try.func5, Try.ntmps5
    go_wp2_with fail
    refine (open_l _ bs _ HV.out).mono ?_; rintro e w1 ⟨a1, k1, rfl, hu1, hb1⟩
    have HG1 := Lib.hid (HG.out.below hb1)
    have HV1 := Lib.hid (HV.out.below hb1)
    rw [HOL.out] at hu1 ⊢
    rw [HEE.out]
    have HU1 := Lib.hid hu1
    clear hb1 hu1
    go_wp2_with fail
    refine (close_l _ (payload bs) _ HU1.out).mono ?_; rintro e w2 ⟨a2, k2, rfl, hu2, hb2⟩
    have HG2 := Lib.hid (HG1.out.below hb2)
    have HV2 := Lib.hid (HV1.out.below hb2)
    rw [HCL.out] at hu2 ⊢
    rw [HCE.out]
    have HU2 := Lib.hid hu2
    clear hb2 hu2
    go_wp2_with (first
      | (go_at_call 18; refine (same_yes _ _ _ _ HU2.out HV2.out).mono ?_; rintro e w' ⟨rfl, rfl⟩)
      | (go_at_call 9; refine (wakes_g w0 _ HG2.out).mono ?_; rintro e w' ⟨rfl, hg⟩))
    go_ret
    exact ⟨rfl, hg⟩
  · have hy0 : ((y.toNat : Int) == 0) = false := by
      rw [beq_eq_false_iff_ne]; intro e; exact hy (BitVec.eq_of_toNat_eq (by show y.toNat = 0; omega))
    obtain ⟨t1, t2, t3, t4⟩ := tmod_size at_ (bs.length : Int) (by omega)
    obtain ⟨i, hi⟩ := Int.eq_ofNat_of_zero_le t3
    have hi2 : i < bs.length := by omega
    obtain ⟨x, hx⟩ : ∃ x, bs[i]? = some x := ⟨_, List.getElem?_eq_getElem hi2⟩
    have HX := Lib.hid hx
    have x0 : (0 : Int) ≤ (x.toNat : Int) := by omega
    have x1 : (x.toNat : Int) ≤ 255 := by have := x.isLt; omega
    have HND : Hid (openE (bs.set i (x ^^^ y)) = 12) := Lib.hid (openE_no (by rw [List.length_set]; omega) (only_no HO.out hx hy))
    have hxor := xor8 x y
    clear hx hy HO
    go_enter Try.func5, Try.ntmps5
    go_wp2_with fail
    refine (open_l _ bs _ HV.out).mono ?_; rintro e w1 ⟨a1, k1, rfl, hu1, hb1⟩
    have HG1 := Lib.hid (HG.out.below hb1)
    have HV1 := Lib.hid (HV.out.below hb1)
    rw [HOL.out] at hu1 ⊢
    rw [HEE.out]
    have HU1 := Lib.hid hu1
    clear hb1 hu1
    go_wp2_with fail
    refine (close_l _ (payload bs) _ HU1.out).mono ?_; rintro e w2 ⟨a2, k2, rfl, hu2, hb2⟩
    have HG2 := Lib.hid (HG1.out.below hb2)
    have HV2 := Lib.hid (HV1.out.below hb2)
    rw [HCL.out] at hu2 ⊢
    rw [HCE.out]
    have HU2 := Lib.hid hu2
    have HO0 := Lib.hid (OwnB.lit (Below.refl _ w2) [] #[] rfl 0 rfl (by simp))
    have HV3 := Lib.hid (HV2.out.below HO0.out.below)
    clear hb2 hu2
    go_wp2_with (first
      | (go_at_call 18; refine (same_yes _ _ _ _ HU2.out HV2.out).mono ?_; rintro e w' ⟨rfl, rfl⟩)
      | (at_builtin; refine wpList_append_bytes rfl _ _ rfl rfl rfl HO0.out _ bs rfl HV3.out (by simp only [List.length_nil]; omega) ?_; intro v4 w4 hO4; rw [List.nil_append] at hO4; obtain ⟨g, c4, hv4⟩ := hO4.form (by omega); subst hv4; have hcg := hO4.cell HX.out; have hfg := hO4.free i; have HO4 := Lib.hid hO4; clear hO4)
      | (go_at_call 12; have hO5 := HO4.out.set i (x ^^^ y); unfold encb at hO5; have HO5 := Lib.hid hO5; clear hO5; refine (open_l _ (bs.set i (x ^^^ y)) _ HO5.out.bytes).mono ?_; rintro e w6 ⟨a6, k6, rfl, -, hb6⟩; rw [HND.out]; have HG6 := Lib.hid (HG2.out.below (HO5.out.later hb6).below); clear hb6)
      | (go_at_call 9; refine (wakes_g w0 _ HG6.out).mono ?_; rintro e w' ⟨rfl, hg⟩))
    go_ret
    exact ⟨rfl, hg⟩

theorem only_walk (v : Value) (bs : List (BitVec 8)) (_hm : ∀ b ∈ bs, b = b) (hn : bs.length ≤ maxLen) (at_ : Int) (y : Int) (hy1 : 0 ≤ y) (hy2 : y ≤ 255) (w0 : World) (w : World) (h : Good w0 w) (hv : Bytes w v bs) :
    Calls Try.prog 5 #[v, .int .i64 at_, .int .u8 y] w fun e w' => e = .returned (.bool true) ∧ Good w0 w' := by
  obtain ⟨a, cap, rfl, -⟩ := hv.shape
  by_cases hl : bs.length ≤ 300
  · by_cases hE : openE bs = 0
    · have ho : opens bs = true := by
        cases ho : opens bs with
        | true => rfl
        | false =>
          by_cases h8 : bs.length < 8
          · rw [openE_short h8] at hE; cases hE
          · rw [openE_no h8 ho] at hE; cases hE
      have e1 : y = ((BitVec.ofNat 8 y.toNat).toNat : Int) := by rw [BitVec.toNat_ofNat]; omega
      rw [e1]
      exact only_open a cap bs ho at_ _ w0 w h hv
    · exact only_shut a cap bs hl hE at_ y w0 w h hv
  · clear hv
    unfold maxLen at hn
    go_enter Try.func5, Try.ntmps5
    go_wp2_with (go_at_call 9; refine (wakes_g w0 _ h).mono ?_; rintro e w' ⟨rfl, hg⟩)
    go_ret
    exact ⟨rfl, hg⟩
end Go.Proofs.Ytclohcbhnlnddaa
