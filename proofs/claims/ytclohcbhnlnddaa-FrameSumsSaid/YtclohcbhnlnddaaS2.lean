/-
  The law FrameSums where row 2 is the shortest one: the walk.
-/
import Derived.Test.YtclohcbhnlnddaaS
import Derived.Deep.RegionLaw
namespace Go.Proofs.Ytclohcbhnlnddaa
open Go.RowKit Go.Shelf

set_option maxRecDepth 100000 in
set_option maxHeartbeats 8000000 in
theorem sums_b (a1 a2 a3 : Option Addr) (c1 c2 c3 n m1 m3 : Nat) (hm1 : n < m1) (hm3 : n ≤ m3) (hn : n ≤ 100) (l1 l2 l3 : List (BitVec 8)) (e1 : l1.length = m1) (e2 : l2.length = n) (e3 : l3.length = m3) (w0 w : World) (h : Good w0 w)
    (hv1 : Bytes w (.slice a1 m1 c1) l1) (hv2 : Bytes w (.slice a2 n c2) l2) (hv3 : Bytes w (.slice a3 m3 c3) l3) :
    Calls Try.prog 6 #[.slice a1 m1 c1, .slice a2 n c2, .slice a3 m3 c3] w fun e w' => e = .returned (.bool true) ∧ Good w0 w' := by
  have t1 : (l1.take n).length = n := by rw [List.length_take]; omega
  have t2 : (l2.take n).length = n := by rw [List.length_take]; omega
  have t3 : (l3.take n).length = n := by rw [List.length_take]; omega
  obtain ⟨X, hX⟩ : ∃ X, X = xF (l1.take n) (l2.take n) (l3.take n) := ⟨_, rfl⟩
  have hXl : X.length = n := by rw [hX]; unfold xF; rw [List.length_zipWith, List.length_zipWith, t1, t2, t3]; omega
  have HSX : Hid (sumF X = sumF (l1.take n) ^^^ sumF (l2.take n) ^^^ sumF (l3.take n)) := Lib.hid (by rw [hX]; exact runOnes_xor3 _ _ _ (by rw [t1, t2]) (by rw [t2, t3]))
  have HT1 := Lib.hid (bytes_trim hv1 n (by omega))
  have HT2 := Lib.hid (bytes_trim hv2 n (by omega))
  have HT3 := Lib.hid (bytes_trim hv3 n (by omega))
  have k1 := bytes_cap hv1
  have k2 := bytes_cap hv2
  have k3 := bytes_cap hv3
  obtain ⟨vs, hvs, hmk⟩ := make_full n (by omega) w
  have HO0 : Hid (OwnB w (w.alloc (.cells vs 5)) (.slice (some ⟨w.heap.size, 0, none⟩) n n) (dF X n 0)) := Lib.hid (by
    have := OwnB.lit (Below.refl _ w) (List.replicate n 0#8) vs hvs n (by simp) (by simp; omega)
    simpa [dF] using this)
  have HL : Hid (∀ k, k ≤ n → n = (dF X n k).length) := Lib.hid (fun k hk => (dF_length hXl hk).symm)
  have HST : Hid (∀ k x, k < n → X[k]? = some x → (dF X n k).set k x = dF X n (k + 1)) := Lib.hid (fun k x hk hx => dF_set hXl hk hx)
  have HEND := Lib.hid (dF_end hXl)
  have HXX := Lib.hid hX
  have HXl := Lib.hid hXl
  have HTL := Lib.hid (And.intro t1 (And.intro t2 t3))
  have HG := Lib.hid h
  have HE := Lib.hid (And.intro e1 (And.intro e2 e3))
  have HV1 := Lib.hid hv1
  have HV2 := Lib.hid hv2
  have HV3 := Lib.hid hv3
  have q1 : (n : Int) ≤ (c1 : Int) := by omega
  have q2 : (n : Int) ≤ (c2 : Int) := by omega
  have q3 : (n : Int) ≤ (c3 : Int) := by omega
  clear hX hXl hvs t1 t2 t3 h e1 e2 e3 hv1 hv2 hv3
  obtain ⟨D, hD⟩ : ∃ D, D = w.heap.size := ⟨_, rfl⟩
  rw [← hD] at HO0 hmk
  have HD := Lib.hid hD
  clear hD
  go_enter Try.func6, Try.ntmps6
  go_wp2
  go_loopw [9, 10] (fun s i wr => ∃ k : Nat, k ≤ n ∧ i = .int .i64 k ∧ s = .int .u32 ((stF (l1.take n) (8 * k)).toNat : Int) ∧ OwnB w wr (.slice (some ⟨D, 0, none⟩) n n) (dF X n k)) (fun _ i _ => n - (intOf i).toNat)
  case atStart => exact ⟨0, Nat.zero_le _, rfl, rfl, HO0.out⟩
  case round =>
    obtain ⟨k, hk, rfl, rfl, hO⟩ := hrel
    by_cases hlt : k < n
    · obtain ⟨x1, hx1⟩ : ∃ x, l1[k]? = some x := ⟨_, List.getElem?_eq_getElem (by have := HE.out; omega)⟩
      obtain ⟨x2, hx2⟩ : ∃ x, l2[k]? = some x := ⟨_, List.getElem?_eq_getElem (by have := HE.out; omega)⟩
      obtain ⟨x3, hx3⟩ : ∃ x, l3[k]? = some x := ⟨_, List.getElem?_eq_getElem (by have := HE.out; omega)⟩
      obtain ⟨b1, o1, rfl, hc1⟩ := bytes_at_n (HV1.out.below (hO.below.trans ((below_drew wr).mono hO.below.size))) hx1
      obtain ⟨b2, o2, rfl, hc2⟩ := bytes_at_n (HV2.out.below (hO.below.trans ((below_drew wr).mono hO.below.size))) hx2
      obtain ⟨b3, o3, rfl, hc3⟩ := bytes_at_n (HV3.out.below (hO.below.trans ((below_drew wr).mono hO.below.size))) hx3
      have HX1 : Hid ((l1.take n)[k]? = some x1) := Lib.hid (by rw [List.getElem?_take_of_lt hlt, hx1])
      obtain ⟨z, hz⟩ : ∃ z, z = (x1 ^^^ x2) ^^^ x3 := ⟨_, rfl⟩
      have HZ : Hid (X[k]? = some z) := Lib.hid (by rw [HXX.out, hz]; exact xF_at (by rw [List.getElem?_take_of_lt hlt, hx1]) (by rw [List.getElem?_take_of_lt hlt, hx2]) (by rw [List.getElem?_take_of_lt hlt, hx3]))
      have r1 := xor8 x1 x2
      have r2 := xor8 (x1 ^^^ x2) x3
      rw [← hz] at r2
      obtain ⟨y, hy⟩ : ∃ y, y = x1 ^^^ x2 := ⟨_, rfl⟩
      rw [← hy] at r1 r2
      have hOd := hO.later (below_drew wr)
      have hcd := hOd.cell_n (HL.out k hk) (j := k) (x := 0#8) (by
        unfold dF
        rw [List.getElem?_append_right (by rw [List.length_take, HXl.out]; omega), List.length_take, HXl.out, show k - min k n = 0 by omega, List.getElem?_replicate, if_pos (by omega)])
      have hfd := hOd.free_n (HL.out k hk) k
      have HOS := Lib.hid (hOd.set_n (HL.out k hk) k z)
      rw [HST.out k z hlt HZ.out] at HOS
      have HCW : Hid ((wr.drew.setCell ⟨D, k, none⟩ (.int .u8 (z.toNat : Int))).cell? ⟨b1, o1 + k, none⟩ = some (.int .u8 (x1.toNat : Int))) := Lib.hid (by
        obtain ⟨b', o', e, hc⟩ := bytes_at_n (HV1.out.below HOS.out.below) hx1
        cases e; exact hc)
      have v1 : (0 : Int) ≤ (x1.toNat : Int) ∧ (x1.toNat : Int) ≤ 255 := by have := x1.isLt; omega
      have v2 : (0 : Int) ≤ (x2.toNat : Int) ∧ (x2.toNat : Int) ≤ 255 := by have := x2.isLt; omega
      have v3 : (0 : Int) ≤ (x3.toNat : Int) ∧ (x3.toNat : Int) ≤ 255 := by have := x3.isLt; omega
      have g1 : k < m1 := by omega
      have g2 : k < n := by omega
      have g3 : k < m3 := by omega
      clear hy hz hx1 hx2 hx3 hO hOd
      go_wp2
      have hW1 : OwnB w (wr.setCell ⟨D, k, none⟩ (.int .u8 (z.toNat : Int))).drew (.slice (some ⟨D, 0, none⟩) n n) (dF X n (k + 1)) := HOS.out
      have hcW1 : (wr.setCell ⟨D, k, none⟩ (.int .u8 (z.toNat : Int))).drew.cell? ⟨b1, o1 + k, none⟩ = some (.int .u8 (x1.toNat : Int)) := HCW.out
      have HW1 := Lib.hid hW1
      have HCW1 := Lib.hid hcW1
      clear hW1 hcW1 HOS HCW
      go_region_law (fail)
      all_goals (
        clear hc1 hc2 hc3 hcd hfd r1 r2
        have hcell := HCW1.out
        have HOW := HW1
        clear HW1 HCW1
        generalize (wr.setCell ⟨D, k, none⟩ (.int .u8 (z.toNat : Int))).drew = W1 at *
        obtain ⟨v1, v1'⟩ := v1
        go_wp2
        go_loopw [9, 11] (fun s i wx => wx = W1 ∧ ∃ m : Nat, m ≤ 8 ∧ i = .int .i64 ((m : Int) - 1) ∧ s = .int .u32 ((stF (l1.take n) (8 * k + (8 - m))).toNat : Int)) (fun _ i _ => (intOf i + 1).toNat)
        case atStart => exact ⟨rfl, 8, by omega, rfl, rfl⟩
        case round =>
          obtain ⟨rfl, m, hm, rfl, rfl⟩ := hrel
          by_cases hm0 : m = 0
          · subst hm0
            go_wp2
            go_roundw
            case rel => exact ⟨k + 1, by omega, by go_num, by rw [show 8 * (k + 1) = 8 * k + (8 - 0) by omega], HOW.out⟩
            case measure => simp [intOf]; omega
          · obtain ⟨q, rfl⟩ : ∃ q, m = q + 1 := ⟨m - 1, by omega⟩
            rw [show ((q + 1 : Nat) : Int) - 1 = (q : Int) by omega]
            have hb : bitAt (l1.take n) (8 * k + (8 - (q + 1))) = (bits .and .u8 ((x1.toNat : Int) / 2 ^ q) 1 == 1) := by
              rw [bit_and, bitAt_byte HX1.out (8 - (q + 1)) (by omega), show 7 - (8 - (q + 1)) = q by omega]
            have hs : stF (l1.take n) (8 * k + (8 - q)) = stepB (stF (l1.take n) (8 * k + (8 - (q + 1)))) (bits .and .u8 ((x1.toNat : Int) / 2 ^ q) 1 == 1) := by
              rw [← hb, show 8 * k + (8 - q) = (8 * k + (8 - (q + 1))) + 1 by omega]
              rfl
            have HS := Lib.hid hs
            clear hs hb
            generalize (x1.toNat : Int) = xi at *
            go_wp2_with (go_at_call 14; refine (step_any _ _ _).mono ?_; rintro e w' ⟨rfl, rfl⟩)
            go_roundw
            case rel => exact ⟨trivial, q, by omega, by go_num, by rw [HS.out, show 8 - (q + 1) = 7 - q by omega]⟩
            case measure => simp [intOf])
    · obtain rfl : k = n := by omega
      rw [HEND.out] at hO
      have HO := Lib.hid hO
      clear hO
      go_wp2
      go_loopw [9, 12] (fun s i wx => wx = wr ∧ ∃ t : Nat, t ≤ 32 ∧ i = .int .i64 t ∧ s = .int .u32 ((stF (l1.take k) (8 * k + t)).toNat : Int)) (fun _ i _ => 32 - (intOf i).toNat)
      case atStart => exact ⟨rfl, 0, by omega, rfl, rfl⟩
      case round =>
        obtain ⟨rfl, t, ht, rfl, rfl⟩ := hrel
        by_cases hlt2 : t < 32
        · have hs : stF (l1.take k) (8 * k + (t + 1)) = stepB (stF (l1.take k) (8 * k + t)) false := by
            have := bitAt_tail (l1.take k) t
            rw [HTL.out.1] at this
            rw [← this, ← Nat.add_assoc]
            rfl
          have HS := Lib.hid hs
          clear hs
          go_wp2_with (go_at_call 14; refine (step_any _ _ _).mono ?_; rintro e w' ⟨rfl, rfl⟩)
          go_roundw
          case rel => exact ⟨trivial, t + 1, by omega, by go_num, by rw [HS.out]⟩
          case measure => simp [intOf]; omega
        · obtain rfl : t = 32 := by omega
          have hend : stF (l1.take k) (8 * k + 32) = sumF (l1.take k) := by
            have := stF_end (l1.take k)
            rwa [HTL.out.1] at this
          rw [hend]
          have hB := HO.out.below
          have D1 := fun d os => sum_any _ _ (by rw [HTL.out.1]; omega) (Go.Sort.grow (redrawn wr d) os) (HT1.out.below (hB.trans ((below_regrown wr d os).mono hB.size)))
          have D2 := fun d os => sum_any _ _ (by rw [HTL.out.2.1]; omega) (Go.Sort.grow (redrawn wr d) os) (HT2.out.below (hB.trans ((below_regrown wr d os).mono hB.size)))
          have D3 := fun d os => sum_any _ _ (by rw [HTL.out.2.2]; omega) (Go.Sort.grow (redrawn wr d) os) (HT3.out.below (hB.trans ((below_regrown wr d os).mono hB.size)))
          have DX := fun d os => sum_any _ _ (by rw [HXl.out]; omega) (Go.Sort.grow (redrawn wr d) os) (HO.out.bytes.below (below_regrown wr d os))
          have DW := fun d os => wakes_g (Go.Sort.grow (redrawn wr d) os) (Go.Sort.grow (redrawn wr d) os) (Good.start _)
          have hx1 := xor32 (sumF (l1.take k)) (sumF (l2.take k))
          have hx2 := xor32 (sumF (l1.take k) ^^^ sumF (l2.take k)) (sumF (l3.take k))
          rw [← HSX.out] at hx2
          rw [← hx1] at hx2
          clear hx1
          have E1 := Lib.hid (fun d os => Calls.regrown_of (D1 d os))
          have E2 := Lib.hid (fun d os => Calls.regrown_of (D2 d os))
          have E3 := Lib.hid (fun d os => Calls.regrown_of (D3 d os))
          have EX := Lib.hid (fun d os => Calls.regrown_of (DX d os))
          have EW := Lib.hid (fun d os => Calls.regrown_of (DW d os))
          clear D1 D2 D3 DX DW hend
          have i1 : (0 : Int) ≤ ((sumF (l1.take k)).toNat : Int) := by omega
          generalize ((sumF (l1.take k)).toNat : Int) = i1' at *
          generalize ((sumF (l2.take k)).toNat : Int) = i2' at *
          generalize ((sumF (l3.take k)).toNat : Int) = i3' at *
          generalize ((sumF X).toNat : Int) = ix' at *
          clear i1 HT1 HT2 HT3 HV1 HV2 HV3 HTL HXX HXl HSX HEND HST HL HO0 hmk
          have HB := Lib.hid hB
          clear hB HO
          go_wp2
          refine wp_region_quiet_below (by kernel_rfl) (by kernel_rfl) ?_
          quiet_step (fail)
          quiet_step (fail)
          quiet_step (fail)
          quiet_step (fail)
          quiet_step (exact E1.out _ _)
          quiet_step (fail)
          quiet_step (fail)
          quiet_step (fail)
          quiet_step (exact EX.out _ _)
          quiet_step (fail)
          quiet_step (fail)
          quiet_step (fail)
          quiet_step (exact E1.out _ _)
          quiet_step (fail)
          quiet_step (fail)
          quiet_step (fail)
          quiet_step (exact E2.out _ _)
          quiet_step (fail)
          quiet_step (fail)
          quiet_step (fail)
          quiet_step (fail)
          quiet_step (exact E3.out _ _)
          quiet_step (fail)
          quiet_step (fail)
          quiet_step (fail)
          quiet_step (fail)
          quiet_step (exact EW.out _ _)
          quiet_step (fail)
          quiet_step (fail)
          refine wpQuiet_nil ?_
          intro _ hw'
          obtain ⟨⟨dq, osq⟩, hw''⟩ := hw'
          subst hw''
          go_wp2
          go_ret
          exact ⟨rfl, HG.out.below (HB.out.trans ((below_regrown wr dq osq).mono HB.out.size))⟩
end Go.Proofs.Ytclohcbhnlnddaa
