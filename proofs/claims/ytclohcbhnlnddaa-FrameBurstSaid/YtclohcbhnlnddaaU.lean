/-
  The law FrameBurst: the walk.
-/
import Derived.Test.YtclohcbhnlnddaaX
namespace Go.Proofs.Ytclohcbhnlnddaa
open Go.RowKit Go.Shelf

set_option maxRecDepth 100000 in
set_option maxHeartbeats 2000000 in
theorem burst_in (a : Option Addr) (cap : Nat) (p : List (BitVec 8)) (hp : p.length ≤ 112) (at_ : Int) (Y : BitVec 32) (w0 : World) (w : World) (h : Good w0 w) (hv : Bytes w (.slice a p.length cap) p) :
    Calls Try.prog 4 #[.slice a p.length cap, .int .i64 at_, .int .u32 (Y.toNat : Int)] w fun e w' => e = .returned (.bool true) ∧ Good w0 w' := by
  obtain ⟨F, hF⟩ : ∃ F, F = closeF p := ⟨_, rfl⟩
  have hFl : F.length = p.length + 8 := by rw [hF, closeF_length]
  have ho : opens F = true := by rw [hF]; exact opens_close hp
  have HCE := Lib.hid (closeE_yes hp)
  have HCL : Hid (closeL p = F) := Lib.hid (by unfold closeL; rw [if_pos (closeE_yes hp), hF])
  have HOE := Lib.hid (openE_yes ho)
  have HOL : Hid (openL F = p) := Lib.hid (by unfold openL; rw [if_pos (openE_yes ho), hF, payload_close])
  have hF8 : 8 ≤ F.length := by omega
  have hF120 : F.length ≤ 120 := by omega
  have hne : ((F.length : Int) != (p.length : Int) + 8) = false := by
    have : (F.length : Int) = (p.length : Int) + 8 := by omega
    rw [this]; simp
  have HLong := Lib.hid (fun z => hF ▸ openE_longer hp z : ∀ z, openE (F ++ [z]) = 12)
  obtain ⟨t1, t2, t3, t4⟩ := tmod_size at_ (8 * (F.length : Int) - 31) (by omega)
  obtain ⟨A, hA⟩ := Int.eq_ofNat_of_zero_le t3
  have hA2 : A + 32 ≤ 8 * F.length := by omega
  have y1 : (0 : Int) ≤ (Y.toNat : Int) := by omega
  have y2 : (Y.toNat : Int) < 4294967296 := by have := Y.isLt; omega
  have HG8 : Hid ((openE (burstL F A Y 32) == 0) = ((Y.toNat : Int) == 0)) := Lib.hid (by
    by_cases hy : Y = 0#32
    · subst hy
      rw [burstL_null, openE_yes ho]
      rfl
    · rw [openE_no (by rw [burstL_length]; omega) (burst_no ho hA2 hy), show ((12 : Int) == 0) = false from rfl]
      rw [eq_comm, beq_eq_false_iff_ne]
      intro e; exact hy (BitVec.eq_of_toNat_eq (by show Y.toNat = 0; omega)))
  have HBIT := Lib.hid (bit_and32 Y)
  have HB2 : Hid (∀ k, burstL F A Y (k + 1) = if Y.getLsbD k = true then flip (burstL F A Y k) (A + k) else burstL F A Y k) := Lib.hid (fun k => rfl)
  have HBL : Hid (∀ k, F.length = (burstL F A Y k).length) := Lib.hid (fun k => (burstL_length F A Y k).symm)
  have HZ := Lib.hid (be_ints Y).2.2.2
  have HF := Lib.hid hF
  have HFl := Lib.hid hFl
  have HV := Lib.hid hv
  have HG := Lib.hid h
  clear hv h ho hF hFl
  generalize (Y.toNat : Int) = yi at *
  go_enter Try.func4, Try.ntmps4
  go_wp2_with fail
  refine (close_l _ p _ HV.out).mono ?_; rintro e w1 ⟨a1, k1, rfl, hu1, hb1⟩
  have HG1 := Lib.hid (HG.out.below hb1)
  have HV1 := Lib.hid (HV.out.below hb1)
  rw [HCL.out] at hu1 ⊢
  rw [HCE.out]
  have hk1 : F.length ≤ k1 := by have := hu1.shape; obtain ⟨_, _, e, hc⟩ := this; cases e; exact hc
  obtain ⟨bb, off, rfl⟩ := hu1.some (by omega)
  have HU1 := Lib.hid hu1
  clear hb1 hu1
  go_wp2_with fail
  refine (open_l _ F _ HU1.out).mono ?_; rintro e w2 ⟨a2, k2, rfl, hu2, hb2⟩
  have HG2 := Lib.hid (HG1.out.below hb2)
  have HV2 := Lib.hid (HV1.out.below hb2)
  have HU12 := Lib.hid (HU1.out.below hb2)
  rw [HOL.out] at hu2 ⊢
  rw [HOE.out]
  have HU2 := Lib.hid hu2
  have HO0 := Lib.hid (OwnB.lit (Below.refl _ w2) [] #[] rfl 0 rfl (by simp))
  have HU3 := Lib.hid (HU12.out.below HO0.out.below)
  clear hb2 hu2
  go_wp2_with (first
    | (go_at_call 18; refine (same_yes _ _ _ _ HU2.out HV2.out).mono ?_; rintro e w' ⟨rfl, rfl⟩)
    | (at_builtin; refine wpList_append_bytes rfl _ _ rfl rfl rfl HO0.out _ F rfl HU3.out (by simp only [List.length_nil]; omega) ?_; intro v4 w4 hO4; rw [List.nil_append] at hO4; obtain ⟨g, c4, hv4⟩ := hO4.form (by omega); subst hv4; have HO4 := Lib.hid hO4; clear hO4))
  go_loopw [13] (fun i wr => ∃ k : Nat, k ≤ 32 ∧ i = .int .i64 k ∧ OwnB w2 wr (.slice (some ⟨g, 0, none⟩) F.length c4) (burstL F A Y k)) (fun i _ => 32 - (intOf i).toNat)
  case atStart => exact ⟨0, by omega, rfl, HO4.out⟩
  case round =>
    obtain ⟨k, hk, rfl, hO⟩ := hrel
    by_cases hlt : k < 32
    · have hbit := HBIT.out k
      have HOk := Lib.hid hO
      clear hO
      cases hy : Y.getLsbD k with
      | false =>
        rw [hy] at hbit
        have HN : Hid (burstL F A Y (k + 1) = burstL F A Y k) := Lib.hid (by rw [HB2.out, hy]; rfl)
        clear hy
        go_wp2
        go_roundw
        case rel => exact ⟨k + 1, by omega, by go_num, by rw [HN.out]; exact HOk.out⟩
        case measure => simp [intOf]; omega
      | true =>
        rw [hy] at hbit
        have hq : (A + k) / 8 < (burstL F A Y k).length := by rw [← HBL.out k]; omega
        obtain ⟨x, hx⟩ : ∃ x, (burstL F A Y k)[(A + k) / 8]? = some x := ⟨_, List.getElem?_eq_getElem hq⟩
        have HN : Hid (burstL F A Y (k + 1) = (burstL F A Y k).set ((A + k) / 8) (x ^^^ (128#8 >>> ((A + k) % 8)))) := Lib.hid (by
          rw [HB2.out, hy, if_pos rfl, flip, hx]; rfl)
        have hcell := HOk.out.cell_n (HBL.out k) hx
        have hfree := HOk.out.free_n (HBL.out k) ((A + k) / 8)
        have hxor := xor8 x (128#8 >>> ((A + k) % 8))
        rw [mask_value] at hxor
        obtain ⟨z, hz⟩ : ∃ z, z = x ^^^ (128#8 >>> ((A + k) % 8)) := ⟨_, rfl⟩
        rw [← hz] at hxor HN
        have HW := Lib.hid (HOk.out.set_n (HBL.out k) ((A + k) / 8) z)
        clear hz
        have x0 : (0 : Int) ≤ (x.toNat : Int) := by omega
        have x1 : (x.toNat : Int) ≤ 255 := by have := x.isLt; omega
        have hq2 : (A + k) / 8 < F.length := by omega
        clear hy hx hq
        generalize (x.toNat : Int) = xi at *
        go_wp2
        go_roundw
        case rel => exact ⟨k + 1, by omega, by go_num, by rw [HN.out]; exact HW.out⟩
        case measure => simp [intOf]; omega
    · obtain rfl : k = 32 := by omega
      have HOk := Lib.hid hO
      have HGr := Lib.hid (HG2.out.below hO.below)
      have HUr := Lib.hid (HU12.out.below hO.below)
      clear hO
      go_wp2_with fail
      refine (open_l _ _ _ HOk.out.bytes).mono ?_; rintro e w6 ⟨a6, k6, rfl, -, hb6⟩
      have hg8 := HG8.out
      generalize openE (burstL F A Y 32) = E6 at *
      generalize (openL (burstL F A Y 32)).length = n6 at *
      have HG6 := Lib.hid (HGr.out.below hb6)
      have HU6 := Lib.hid (HUr.out.below hb6)
      have HO6 := Lib.hid (OwnB.lit (Below.refl _ w6) [] #[] rfl 0 rfl (by simp))
      have HU7 := Lib.hid (HU6.out.below HO6.out.below)
      obtain ⟨Z, hZ⟩ : ∃ Z, Z = Y.extractLsb' 0 8 := ⟨_, rfl⟩
      have HC1 : Hid (#[Value.int .u8 (yi % 256)] = (([Z] : List (BitVec 8)).map encb).toArray) := Lib.hid (by
        have := HZ.out
        rw [← hZ] at this
        rw [← this]
        rfl)
      have HLZ := Lib.hid (HLong.out Z)
      clear hb6 hZ
      go_wp2_with (first
        | (at_builtin; refine wpList_append_bytes rfl _ _ rfl rfl rfl HO6.out _ F rfl HU7.out (by simp only [List.length_nil]; omega) ?_; intro v7 w7 hO7; rw [List.nil_append] at hO7; have HO7 := Lib.hid hO7; clear hO7)
        | (at_builtin; refine wpList_append_bytes rfl _ _ rfl rfl rfl (HO7.out.alloc _) _ [Z] rfl (bytes_new _ _ _ HC1.out 1 rfl (by simp) _ rfl) (by simp only [List.length_cons, List.length_nil]; omega) ?_; intro v8 w8 hO8; have HO8 := Lib.hid hO8; clear hO8))
      refine (open_l _ _ _ HO8.out.bytes).mono ?_; rintro e w9 ⟨a9, k9, rfl, -, hb9⟩
      rw [HLZ.out]
      generalize (openL (F ++ [Z])).length = n9 at *
      have HG9 := Lib.hid (HG6.out.below (HO8.out.later hb9).below)
      have HU9 := Lib.hid (HU6.out.below (HO8.out.later hb9).below)
      have HSUB : Hid (Bytes w9 (.slice (some ⟨bb, off, none⟩) (F.length - 1) k1) (F.take (F.length - 1))) := Lib.hid (by
        have := HU9.out.sub 0 (F.length - 1) (by omega) k1 (by omega)
        rwa [Nat.add_zero, List.drop_zero] at this)
      clear hb9
      by_cases hp0 : p.length = 0
      · have HE : Hid (openE (F.take (F.length - 1)) = 11) := Lib.hid (by rw [HF.out]; exact openE_shortest hp0)
        have hF8' : ((F.length : Int) == 8) = true := by
          have := HFl.out
          rw [beq_iff_eq]; omega
        go_wp2_with fail
        refine (open_l _ _ _ HSUB.out).mono ?_; rintro e w10 ⟨a10, k10, rfl, -, hb10⟩
        rw [HE.out]
        generalize (openL (F.take (F.length - 1))).length = n10 at *
        have HG10 := Lib.hid (HG9.out.below hb10)
        clear hb10
        go_wp2_with (go_at_call 9; refine (wakes_g w0 _ HG10.out).mono ?_; rintro e w' ⟨rfl, hg⟩)
        go_ret
        exact ⟨rfl, hg⟩
      · have HE : Hid (openE (F.take (F.length - 1)) = 12) := Lib.hid (by rw [HF.out]; exact openE_shorter hp (by omega))
        go_wp2_with fail
        refine (open_l _ _ _ HSUB.out).mono ?_; rintro e w10 ⟨a10, k10, rfl, -, hb10⟩
        rw [HE.out]
        generalize (openL (F.take (F.length - 1))).length = n10 at *
        have HG10 := Lib.hid (HG9.out.below hb10)
        clear hb10
        go_wp2_with (go_at_call 9; refine (wakes_g w0 _ HG10.out).mono ?_; rintro e w' ⟨rfl, hg⟩)
        go_ret
        exact ⟨rfl, hg⟩

theorem burst_walk (v : Value) (bs : List (BitVec 8)) (_hm : ∀ b ∈ bs, b = b) (hn : bs.length ≤ maxLen) (at_ : Int) (y : Int) (hy1 : 0 ≤ y) (hy2 : y ≤ 4294967295) (w0 : World) (w : World) (h : Good w0 w) (hv : Bytes w v bs) :
    Calls Try.prog 4 #[v, .int .i64 at_, .int .u32 y] w fun e w' => e = .returned (.bool true) ∧ Good w0 w' := by
  obtain ⟨a, cap, rfl, -⟩ := hv.shape
  by_cases hl : bs.length ≤ 112
  · have e1 : y = ((BitVec.ofNat 32 y.toNat).toNat : Int) := by rw [BitVec.toNat_ofNat]; omega
    rw [e1]
    exact burst_in a cap bs hl at_ _ w0 w h hv
  · unfold maxLen at hn
    have HE := Lib.hid (closeE_no (p := bs) (by omega))
    have HL : Hid ((closeL bs).length = 0) := Lib.hid (by unfold closeL; rw [HE.out]; rfl)
    have HV := Lib.hid hv
    have HG := Lib.hid h
    clear hv h
    go_enter Try.func4, Try.ntmps4
    go_wp2_with fail
    refine (close_l _ bs _ HV.out).mono ?_; rintro e w1 ⟨a1, k1, rfl, -, hb1⟩
    have HG1 := Lib.hid (HG.out.below hb1)
    rw [HE.out, HL.out]
    clear hb1
    go_wp2_with (go_at_call 9; refine (wakes_g w0 _ HG1.out).mono ?_; rintro e w' ⟨rfl, hg⟩)
    go_ret
    exact ⟨rfl, hg⟩
end Go.Proofs.Ytclohcbhnlnddaa
