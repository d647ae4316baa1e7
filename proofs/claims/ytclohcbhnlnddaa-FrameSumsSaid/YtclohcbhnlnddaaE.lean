/-
  The sums: package frame's and its reference's.
-/
import Derived.Test.YtclohcbhnlnddaaD
namespace Go.Proofs.Ytclohcbhnlnddaa
open Go.RowKit Go.Shelf
attribute [local go_sem] Oper.semAt_some

set_option maxRecDepth 100000 in
set_option maxHeartbeats 1000000 in
theorem sum_in (a : Option Addr) (cap : Nat) (bs : List (BitVec 8)) (hmax : bs.length ≤ 100000) (w : World) (hv : Bytes w (.slice a bs.length cap) bs) : CallsIn Fence.wide 5 Try.prog 16 #[.slice a bs.length cap] w fun e w' =>
    e = .returned (.int .u32 ((sumF bs).toNat : Int)) ∧ Below w.heap.size w w' := by
  refine callsIn_of_wp_marks Try.func16 rfl trivial ?_ rfl
  simp only [Try.ntmps16, List.size_toArray, List.length_cons, List.length_nil, Nat.reduceAdd, Nat.reduceSub, Array.replicate_succ, Array.replicate_zero, List.push_toArray, List.append_toArray, List.nil_append, List.cons_append]
  refine wpIn_wide.2 ?_
  have HV := Lib.hid hv
  clear hv
  go_wp2_with (go_at_call 21; refine (bits_any _ _ _ _).mono ?_; rintro e w' ⟨rfl, rfl⟩)
  have hbox : Row ((w.alloc (.cells #[.int .u32 4294967295] 22)).alloc (.cells #[.slice a bs.length cap] 23)) w.heap.size #[.int .u32 ((stF bs 0).toNat : Int)] 22 := (Row.new w _ 22).alloc _
  have hkey : Row ((w.alloc (.cells #[.int .u32 4294967295] 22)).alloc (.cells #[.slice a bs.length cap] 23)) (w.heap.size + 1) #[.slice a bs.length cap] 23 := by
    have := Row.new (w.alloc (.cells #[.int .u32 4294967295] 22)) #[.slice a bs.length cap] 23
    rwa [World.size_alloc] at this
  have hbel : Below w.heap.size w ((w.alloc (.cells #[.int .u32 4294967295] 22)).alloc (.cells #[.slice a bs.length cap] 23)) := ((Below.refl _ w).alloc (Nat.le_refl _) _).alloc (by simp) _
  have hsize : ((w.alloc (.cells #[.int .u32 4294967295] 22)).alloc (.cells #[.slice a bs.length cap] 23)).heap.size = w.heap.size + 2 := by simp
  have hv3 := HV.out.below hbel
  have hS : ∀ b, blk (.slice a bs.length cap) b → b < w.heap.size := by
    rintro b ⟨off, n, c, e, hp⟩
    obtain ⟨a', cap', e', -, -, h⟩ := HV.out
    injection e' with e1 e2 e3
    injection e with f1 f2 f3
    rcases h with h | ⟨b', off', e2, hl, -⟩
    · subst h; rw [← f2] at hp; simp at hp
    · rw [← e1, f1] at e2; cases e2; exact hl
  generalize (w.alloc (.cells #[.int .u32 4294967295] 22)).alloc (.cells #[.slice a bs.length cap] 23) = w3 at *
  obtain ⟨m, hm⟩ : ∃ m, w.heap.size = m := ⟨_, rfl⟩
  rw [hm] at hbox hkey hsize hS ⊢
  have HM := Lib.hid hm
  clear hm
  refine (wpIn_wide (n := 5)).1 (wpIn_range rfl (by omega) (gf := 22) (lb := #[.pointer (some ⟨m + 1, 0, none⟩)]) rfl trivial (enters_of Try.func22 (by kernel_rfl) rfl)
    (bits_iter Fence.wide (5 - 1) rfl trivial trivial rfl (m + 1) _ bs w3 hkey hv3 hmax) (fun _ => rfl)
    (fun k => k = m) (fun k hk => by omega) (fun b hb => ?hS) (fun _ h => h.elim)
    (fun k W => Row W m #[.int .u32 ((stF bs k).toNat : Int)] 22) (fun _ _ _ => False)
    (fun k A B h hb => h.same (hb _ rfl)) (fun _ _ _ _ h _ => h) hbox
    (fun k => { tmps := #[.slice a bs.length cap, undef, .int .u32 0, .pointer (some ⟨m, 0, none⟩), .bool (bitAt bs k), .slice a bs.length cap, .func (.func 22) #[] #[.pointer (some ⟨m + 1, 0, none⟩)], .bool (bitAt bs k), undef, undef, undef, undef], defers := [] }) ?assign ?body ?done ?stop)
  case hS =>
    rcases hb with rfl | hb
    · exact ⟨by omega, by omega⟩
    · have := hS b hb
      exact ⟨by omega, by omega⟩
  case assign =>
    intro l k W K hK
    simp only [encN]
    gi_wp2
    exact hK
  case body =>
    intro l k W hk _ hI
    have hc := hI.cell (j := 0) (v := .int .u32 ((stF bs k).toNat : Int)) rfl
    have hf := hI.free 0
    have hx1 := (stF bs k).isLt
    gi_wp2_with ((try refine ⟨trivial, ?_⟩); gi_at_call 14; refine (CallsIn.inRound l (callsIn_wide.2 (step_any _ _ _))).mono ?_; rintro e w' ⟨rfl, rfl⟩)
    exact ⟨(Turns.refl (fun x => x = m) W).setCell (p := ⟨m, 0, none⟩) (.inr rfl) _, hI.set 0 (.int .u32 ((stF bs (k + 1)).toNat : Int))⟩
  case done =>
    intro D W hD ht hI hK
    rw [stF_end] at hI
    have hc := hI.cell (j := 0) (v := .int .u32 ((sumF bs).toNat : Int)) rfl
    go_wp2
    refine ⟨by simp, .inl ⟨_, _, rfl, run_takeDeferred hK, ?_⟩⟩
    refine ⟨_, results_tmp rfl _ _ _, rfl, ?_⟩
    rw [HM.out] at hbel ⊢
    exact (hbel.trans (ht.below (by omega) (fun k hk => by rintro (h | h) <;> omega))).trans
      (((Turns.refl (fun x => x = D) W).putObj (.inr rfl) _).below (by have := ht.size; omega) (fun k hk => by omega))
  case stop =>
    intro D c k W _ _ _ h _
    exact h.elim

set_option maxHeartbeats 1000000 in
theorem refsum_any (a : Option Addr) (cap : Nat) (bs : List (BitVec 8)) (hmax : bs.length ≤ 100000) (w : World) (hv : Bytes w (.slice a bs.length cap) bs) : Calls Try.prog 17 #[.slice a bs.length cap] w fun e w' =>
    e = .returned (.int .u32 ((sumF bs).toNat : Int)) ∧ w = w' := by
  have HV := Lib.hid hv
  clear hv
  go_enter Try.func17, Try.ntmps17
  go_wp2
  go_loop [3, 4] (fun s i => ∃ k : Nat, k ≤ bs.length ∧ i = .int .i64 k ∧ s = .int .u32 ((stF bs (8 * k)).toNat : Int)) (fun _ i => bs.length - (intOf i).toNat)
  case atStart => exact ⟨0, Nat.zero_le _, rfl, rfl⟩
  case round =>
    obtain ⟨k, hk, rfl, rfl⟩ := hrel
    by_cases hlt : k < bs.length
    · obtain ⟨x, hx⟩ : ∃ x, bs[k]? = some x := ⟨_, List.getElem?_eq_getElem hlt⟩
      obtain ⟨bb, off, rfl, hcell⟩ := HV.out.at hx
      have HX := Lib.hid hx
      have hx0 : (0 : Int) ≤ (x.toNat : Int) := by omega
      have hx1 : (x.toNat : Int) ≤ 255 := by have := x.isLt; omega
      clear hx
      go_wp2
      go_loop [3, 5] (fun s i => ∃ m : Nat, m ≤ 8 ∧ i = .int .i64 ((m : Int) - 1) ∧ s = .int .u32 ((stF bs (8 * k + (8 - m))).toNat : Int)) (fun _ i => (intOf i + 1).toNat)
      case atStart => exact ⟨8, by omega, rfl, rfl⟩
      case round =>
        obtain ⟨m, hm, rfl, rfl⟩ := hrel
        by_cases hm0 : m = 0
        · subst hm0
          go_wp2
          go_round
          case rel => exact ⟨k + 1, by omega, by go_num, by rw [show 8 * (k + 1) = 8 * k + (8 - 0) by omega]⟩
          case measure => simp [intOf]; omega
        · obtain ⟨q, rfl⟩ : ∃ q, m = q + 1 := ⟨m - 1, by omega⟩
          rw [show ((q + 1 : Nat) : Int) - 1 = (q : Int) by omega]
          have hb : bitAt bs (8 * k + (8 - (q + 1))) = (bits .and .u8 ((x.toNat : Int) / 2 ^ q) 1 == 1) := by
            rw [bit_and, bitAt_byte HX.out (8 - (q + 1)) (by omega), show 7 - (8 - (q + 1)) = q by omega]
          have hs : stF bs (8 * k + (8 - q)) = stepB (stF bs (8 * k + (8 - (q + 1)))) (bits .and .u8 ((x.toNat : Int) / 2 ^ q) 1 == 1) := by
            rw [← hb, show 8 * k + (8 - q) = (8 * k + (8 - (q + 1))) + 1 by omega]
            rfl
          have HS := Lib.hid hs
          clear hs hb
          generalize (x.toNat : Int) = xi at *
          go_wp2_with (go_at_call 15; refine (refstep_any _ _ _).mono ?_; rintro e w' ⟨rfl, rfl⟩)
          go_round
          case rel => exact ⟨q, by omega, by go_num, by rw [HS.out, show 8 - (q + 1) = 7 - q by omega]⟩
          case measure => simp [intOf]
    · obtain rfl : k = bs.length := by omega
      go_wp2
      go_loop [3, 6] (fun s i => ∃ t : Nat, t ≤ 32 ∧ i = .int .i64 t ∧ s = .int .u32 ((stF bs (8 * bs.length + t)).toNat : Int)) (fun _ i => 32 - (intOf i).toNat)
      case atStart => exact ⟨0, by omega, rfl, rfl⟩
      case round =>
        obtain ⟨t, ht, rfl, rfl⟩ := hrel
        by_cases hlt2 : t < 32
        · have hs : stF bs (8 * bs.length + (t + 1)) = stepB (stF bs (8 * bs.length + t)) false := by
            rw [← bitAt_tail bs t, ← Nat.add_assoc]
            rfl
          have HS := Lib.hid hs
          clear hs
          go_wp2_with (go_at_call 15; refine (refstep_any _ _ _).mono ?_; rintro e w' ⟨rfl, rfl⟩)
          go_round
          case rel => exact ⟨t + 1, by omega, by go_num, by rw [HS.out]⟩
          case measure => simp [intOf]; omega
        · obtain rfl : t = 32 := by omega
          go_wp2
          go_ret
          exact ⟨by rw [stF_end]; rfl, rfl⟩

theorem sum_any (v : Value) (bs : List (BitVec 8)) (hmax : bs.length ≤ 100000) (w : World) (hv : Bytes w v bs) : Calls Try.prog 16 #[v] w fun e w' =>
    e = .returned (.int .u32 ((sumF bs).toNat : Int)) ∧ Below w.heap.size w w' := by
  obtain ⟨a, cap, rfl, -⟩ := hv.shape
  exact callsIn_wide.1 (sum_in a cap bs hmax w hv)
end Go.Proofs.Ytclohcbhnlnddaa
