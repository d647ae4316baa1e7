/-
  ArcRises where the row rises: the walk of the second loop (its region draws: by Held2 and two cells).
-/
import Derived.Test.YtfbkhendpbhfcaaDoorH
import Derived.Deep.RegionHeld3
import Derived.Lib.QuietBelow
namespace Go.Proofs.YtfbkhendpbhfcaaDoor
open Go.RowKit Go.Shelf

theorem Ints.sub {w : World} {b off n cap : Nat} {zs : List Int} (h : Ints w (.slice (some ⟨b, off, none⟩) n cap) zs) (k m : Nat) (hk : k + m ≤ zs.length) (c : Nat) :
    Ints w (.slice (some ⟨b, off + k, none⟩) m c) ((zs.drop k).take m) := by
  have hlen : ((zs.drop k).take m).length = m := by rw [List.length_take, List.length_drop]; omega
  obtain ⟨a', cap', e, h⟩ := h
  cases e
  refine ⟨_, c, by rw [List.length_map, hlen], ?_⟩
  rcases h with h | ⟨b', off', e, hl, hc⟩
  · have : zs = [] := List.map_eq_nil_iff.1 h
    subst this
    exact .inl (by simp)
  · cases e
    refine .inr ⟨b, off + k, rfl, hl, fun j u hj => ?_⟩
    rw [List.getElem?_map] at hj
    have hjm : j < m := by
      rcases Nat.lt_or_ge j m with h | h
      · exact h
      · rw [List.getElem?_eq_none (by omega)] at hj; cases hj
    rw [List.getElem?_take_of_lt hjm, List.getElem?_drop] at hj
    have := hc (k + j) u (by rw [List.getElem?_map]; exact hj)
    rwa [← Nat.add_assoc] at this

/-- The world in the loop, as the calls within want it. -/
def Held2 (w0 : World) (v : Value) (zs : List Int) (W : World) : Prop := Good w0 W ∧ Ints W v zs

theorem sub_call (w0 : World) (b off cap : Nat) (zs : List Int) (hn : zs.length ≤ 60) (a : Int) (k m c : Nat) (hk : k + m ≤ zs.length) (r : Bool) (hr : risesF a 0 ((zs.drop k).take m) = r)
    (W : World) (h : Held2 w0 (.slice (some ⟨b, off, none⟩) zs.length cap) zs W) :
    Calls Tryd.prog 22 #[.int .i64 a, .slice (some ⟨b, off + k, none⟩) m c] W fun e W' => e = .returned (.bool r) ∧ Held2 w0 (.slice (some ⟨b, off, none⟩) zs.length cap) zs W' := by
  subst hr
  exact (rises_g w0 _ _ (by rw [List.length_take, List.length_drop]; omega) a W (h.2.sub k m hk c) h.1).mono fun _ _ h' => ⟨h'.1, h'.2.2, h.2.below h'.2.1⟩

theorem Held2.below {w0 : World} {v : Value} {zs : List Int} {W W' : World} (h : Held2 w0 v zs W) (hb : Below W.heap.size W W') : Held2 w0 v zs W' := ⟨h.1.below hb, h.2.below hb⟩
theorem pair_call (w0 : World) (v : Value) (zs : List Int) (a z y : Int) (hr : risesF a 0 [z, y] = false) (W : World) (h : Held2 w0 v zs W) :
    Calls Tryd.prog 22 #[.int .i64 a, .slice (some ⟨W.heap.size, 0, none⟩) 2 2] (W.alloc (.cells #[.int .i64 z, .int .i64 y] 3)) fun e W' => e = .returned (.bool false) ∧ Held2 w0 v zs W' := by
  have hb : Below W.heap.size W (W.alloc (.cells #[.int .i64 z, .int .i64 y] 3)) := (Below.refl _ W).alloc (Nat.le_refl _) _
  refine (rises_g w0 _ [z, y] (by simp) a _ (ints_new W [z, y] 3 2) (h.1.alloc _)).mono ?_
  rintro e W' ⟨he, hb', hg⟩
  rw [hr] at he
  exact ⟨he, hg, (h.2.below hb).below hb'⟩

set_option maxRecDepth 100000 in
set_option maxHeartbeats 40000000 in
theorem lrises_yes (a : Int) (ad : Option Addr) (cap : Nat) (zs : List Int) (hn : zs.length ≤ 60) (hcap : zs.length ≤ cap) (hr : risesF a 0 zs = true) (w0 w : World) (h : Good w0 w) (hk : Ints w (.slice ad zs.length cap) zs) :
    Calls Tryd.prog 7 #[.int .i64 a, .slice ad zs.length cap] w fun e w' => e = .returned (.bool true) ∧ Good w0 w' := by
  have HK := Lib.hid hk
  have HR := Lib.hid hr
  clear hk hr
  go_enter Tryd.func7, Tryd.ntmps7
  go_wp2_with fail
  refine (rises_g w0 _ zs (by omega) a _ HK.out h).mono ?_; rintro e w1 ⟨rfl, hb1, h1⟩
  rw [HR.out]
  have HK1 := Lib.hid (HK.out.below hb1)
  have HG1 := Lib.hid h1
  clear hb1 h1 HK h
  go_wp2
  go_loopw [7] (fun i wr => ∃ k : Nat, k ≤ zs.length ∧ i = .int .i64 k ∧ Held2 w0 (.slice ad zs.length cap) zs wr) (fun i _ => zs.length - (intOf i).toNat)
  case atStart => exact ⟨0, Nat.zero_le _, rfl, HG1.out, HK1.out⟩
  case round =>
    obtain ⟨k, hk, rfl, hw⟩ := hrel
    by_cases hlt : k < zs.length
    · obtain ⟨z, hz⟩ : ∃ z, zs[k]? = some z := ⟨_, List.getElem?_eq_getElem hlt⟩
      obtain ⟨b, off, rfl, hcell⟩ := hw.2.at hz
      have hd : Held2 w0 (.slice (some ⟨b, off, none⟩) zs.length cap) zs wr.drew := hw.below ⟨rfl, rfl, rfl, Nat.le_refl _, fun _ _ => rfl⟩
      clear HK1 HG1
      by_cases hk0 : k = 0
      · subst hk0
        have D1 := Lib.hid (fun d os => (rises_any _ _ (by rw [List.drop_zero, List.take_length]; omega) a (Go.Sort.grow (redrawn wr d) os) ((hw.2.sub 0 zs.length (by omega) cap).below (below_regrown wr d os))))
        have D2 := Lib.hid (fun d os => (rises_any _ _ (by simp) a (Go.Sort.grow (redrawn wr d) os) ((hw.2.sub 0 0 (by omega) cap).below (below_regrown wr d os))))
        simp only [Nat.add_zero, List.drop_zero, List.take_length, List.take_zero, HR.out] at D1 D2
        have er : risesF a 0 [] = true := rfl
        rw [er] at D2
        have E1 := Lib.hid (fun d os => Calls.regrown_of (D1.out d os))
        have E2 := Lib.hid (fun d os => Calls.regrown_of (D2.out d os))
        clear hd hz hcell er D1 D2
        have HW := Lib.hid hw
        clear hw
        have ez : ((0 : Nat) : Int) = 0 := rfl
        rw [ez]
        clear ez
        go_wp2
        refine wp_region_quiet_below (by kernel_rfl) (by kernel_rfl) ?_
        quiet_step (fail)
        quiet_step (fail)
        quiet_step (fail)
        quiet_step (fail)
        quiet_step (exact E1.out _ _)
        quiet_step (fail)
        quiet_step (fail)
        quiet_step (fail)
        quiet_step (fail)
        quiet_step (fail)
        quiet_step (fail)
        quiet_step (exact E2.out _ _)
        repeat ((with_reducible (refine wpQuiet_step (fun K hK => ?_))); go_simp; (with_reducible (refine hK _ ?_)); clear hK K)
        with_reducible (refine wpQuiet_nil ?_)
        intro _ hw'
        obtain ⟨⟨dq, osq⟩, hw''⟩ := hw'
        subst hw''
        go_wp2
        go_roundw
        case rel => exact ⟨1, by omega, by go_num, HW.out.below (below_regrown wr dq osq)⟩
        case measure => simp [intOf]; omega
      · obtain ⟨j, rfl⟩ : ∃ j, k = j + 1 := ⟨k - 1, by omega⟩
        obtain ⟨y, hy⟩ : ∃ y, zs[j]? = some y := ⟨_, List.getElem?_eq_getElem (by omega)⟩
        have hp := risesF_pair a zs j 0 y z HR.out hy hz
        have e1 : inB a y z = true := inB_yes ⟨hp.1, .inr hp.2⟩
        have hzy : risesF a 0 [z, y] = false := by
          simp only [risesF, Bool.and_true, Bool.and_eq_false_iff]
          exact .inr (decide_eq_false (by omega))
        have C1 := Lib.hid (fun W => sub_call w0 b off cap zs hn a (j + 1) (zs.length - (j + 1)) (cap - (j + 1)) (by omega) true (by rw [List.take_of_length_le (by rw [List.length_drop]; omega)]; exact risesF_suffix a zs _ 0 HR.out) W)
        have C2 := Lib.hid (fun W => sub_call w0 b off cap zs hn a 0 (j + 1) cap (by omega) true (by rw [List.drop_zero]; exact risesF_take a zs _ 0 HR.out) W)
        simp only [Nat.add_zero] at C2
        have C3 := Lib.hid (fun W => pair_call w0 (.slice (some ⟨b, off, none⟩) zs.length cap) zs a z y hzy W)
        have HCZ : Hid (∀ W, Held2 w0 (.slice (some ⟨b, off, none⟩) zs.length cap) zs W → W.cell? ⟨b, off + (j + 1), none⟩ = some (.int .i64 z)) := Lib.hid (fun W h => by
          obtain ⟨b', off', e, hc⟩ := h.2.at hz
          cases e; exact hc)
        have HCY : Hid (∀ W, Held2 w0 (.slice (some ⟨b, off, none⟩) zs.length cap) zs W → W.cell? ⟨b, off + j, none⟩ = some (.int .i64 y)) := Lib.hid (fun W h => by
          obtain ⟨b', off', e, hc⟩ := h.2.at hy
          cases e; exact hc)
        have q1 : (0 : Int) ≤ (j : Int) + 1 := by omega
        have q2 : (j : Int) + 1 ≤ (zs.length : Int) := by omega
        have q3 : ((j : Int) + 1).toNat = j + 1 := by omega
        have q4 : (j : Int) + 1 ≤ (cap : Int) := by omega
        have q5 : (j : Int) + 1 < (zs.length : Int) := by omega
        have q6 : j + 1 ≤ zs.length := by omega
        have q7 : j < zs.length := by omega
        have q8 : (j : Int) < (zs.length : Int) := by omega
        have q9 : (zs.length : Int) ≤ (cap : Int) := by omega
        have hc1 : ¬ cap = j + 1 := by omega
        have hc2 : ¬ cap = 0 := by omega
        have hlt' : j + 1 ≤ cap := by omega
        clear hz hy hp hzy hw hcell
        go_wp2
        have SK : Hid (∀ W, Held2 w0 (.slice (some ⟨b, off, none⟩) zs.length cap) zs W → Held2 w0 (.slice (some ⟨b, off, none⟩) zs.length cap) zs W ∧ W.cell? ⟨b, off + (j + 1), none⟩ = some (.int .i64 z) ∧ W.cell? ⟨b, off + j, none⟩ = some (.int .i64 y)) := Lib.hid (fun W h => ⟨h, HCZ.out W h, HCY.out W h⟩)
        have SA : Hid (∀ W o, Held2 w0 (.slice (some ⟨b, off, none⟩) zs.length cap) zs W → Held2 w0 (.slice (some ⟨b, off, none⟩) zs.length cap) zs (W.alloc o)) := Lib.hid (fun W o h => h.below ((Below.refl _ W).alloc (Nat.le_refl _) _))
        have SH : Hid (∀ W, (Held2 w0 (.slice (some ⟨b, off, none⟩) zs.length cap) zs W ∧ W.cell? ⟨b, off + (j + 1), none⟩ = some (.int .i64 z) ∧ W.cell? ⟨b, off + j, none⟩ = some (.int .i64 y)) → Held2 w0 (.slice (some ⟨b, off, none⟩) zs.length cap) zs W) := Lib.hid (fun W h => h.1)
        have x1 : IntKind.i64.wrap ((j : Int) + 1 - 1) = (j : Int) := by
          simp [IntKind.wrap, IntKind.bits, IntKind.signed]; omega
        have x2 : IntKind.i64.wrap (j : Int) = (j : Int) := by
          simp [IntKind.wrap, IntKind.bits, IntKind.signed]; omega
        have x3 : (j : Int) + 1 - 1 = (j : Int) := by omega
        have x4 : ((j : Int)).toNat = j := by omega
        have x5 : (0 : Int) ≤ (j : Int) := by omega
        clear HCZ HCY
        go_region_held3 (fun W => Held2 w0 (.slice (some ⟨b, off, none⟩) zs.length cap) zs W ∧ W.cell? ⟨b, off + (j + 1), none⟩ = some (.int .i64 z) ∧ W.cell? ⟨b, off + j, none⟩ = some (.int .i64 y))
          (first | exact SK.out _ (by with_reducible assumption) | exact SK.out _ (SA.out _ _ (SH.out _ (by with_reducible assumption))))
          (first
          | (go_at_call 22; with_reducible refine (C1.out _ (SH.out _ (by with_reducible assumption))).mono ?_; rintro e w' ⟨rfl, hx⟩)
          | (go_at_call 22; with_reducible refine (C2.out _ (SH.out _ (by with_reducible assumption))).mono ?_; rintro e w' ⟨rfl, hx⟩)
          | (go_at_call 16; with_reducible refine (in_any _ _ _ _).mono ?_; rintro e w' ⟨rfl, rfl⟩)
          | (go_at_call 22; with_reducible refine (C3.out _ (by with_reducible assumption)).mono ?_; rintro e w' ⟨rfl, hx⟩))
        all_goals (go_wp2
                   go_roundw
                   case rel => exact ⟨j + 1 + 1, by omega, by go_num, SH.out _ (by with_reducible assumption)⟩
                   case measure => simp [intOf]; omega)
    · obtain rfl : k = zs.length := by omega
      go_wp2_with (go_at_call 9; refine (wakes_g w0 _ hw.1).mono ?_; rintro e w' ⟨rfl, hg⟩)
      go_ret
      exact ⟨rfl, hg⟩
end Go.Proofs.YtfbkhendpbhfcaaDoor
