/-
  The walk of ArcRises.
-/
import Derived.Test.YtfbkhendpbhfcaaDoorE
import Derived.Deep.RegionWith
namespace Go.Proofs.YtfbkhendpbhfcaaDoor
open Go.RowKit Go.Shelf

/-- Whether the k-th is no further than it should be. -/
def badAt (a : Int) (zs : List Int) (k : Nat) : Bool := far a (zs.getD k 0) == 0 || (decide (0 < k) && decide (far a (zs.getD k 0) ≤ far a (zs.getD (k - 1) 0)))
def badK (a : Int) (zs : List Int) : Nat → Bool
  | 0 => false
  | k + 1 => badK a zs k || badAt a zs k

theorem risesF_bad (a : Int) (zs : List Int) (k : Nat) (hk : k ≤ zs.length) (h : badK a zs k = false) :
    risesF a 0 zs = risesF a (if k = 0 then 0 else far a (zs.getD (k - 1) 0)) (zs.drop k) := by
  induction k with
  | zero => rfl
  | succ k ih =>
    simp only [badK, Bool.or_eq_false_iff] at h
    obtain ⟨h1, h2⟩ := h
    have hz : zs[k]? = some (zs.getD k 0) := by
      rw [List.getD_eq_getElem?_getD, List.getElem?_eq_getElem (by omega)]; rfl
    rw [ih (by omega) h1, risesF_drop hz]
    simp only [badAt, Bool.or_eq_false_iff, Bool.and_eq_false_iff] at h2
    obtain ⟨h3, h4⟩ := h2
    have hb := far_bd a (zs.getD k 0)
    have h3' : ¬ far a (zs.getD k 0) = 0 := by simpa using h3
    have hlt : (if k = 0 then 0 else far a (zs.getD (k - 1) 0)) < far a (zs.getD k 0) := by
      by_cases h0 : k = 0
      · rw [if_pos h0]; omega
      · rw [if_neg h0]
        rcases h4 with h4 | h4
        · have := of_decide_eq_false h4; omega
        · have := of_decide_eq_false h4; omega
    rw [decide_eq_true hlt, Bool.true_and]
    rfl
theorem badK_all (a : Int) (zs : List Int) (h : risesF a 0 zs = false) : badK a zs zs.length = true := by
  cases e : badK a zs zs.length with
  | true => rfl
  | false =>
    have := risesF_bad a zs zs.length (Nat.le_refl _) e
    rw [h, List.drop_length] at this
    cases this

/-- What rises from 'was' on: each further than the one ahead, and than was. -/
theorem risesF_take (a : Int) (zs : List Int) : ∀ (k : Nat) (was : Int), risesF a was zs = true → risesF a was (zs.take k) = true := by
  induction zs with
  | nil => intro k was _; simp [risesF]
  | cons z zs ih =>
    intro k was h
    simp only [risesF, Bool.and_eq_true, decide_eq_true_eq] at h
    cases k with
    | zero => rfl
    | succ k =>
      simp only [List.take_succ_cons, risesF, Bool.and_eq_true, decide_eq_true_eq]
      exact ⟨h.1, ih k _ h.2⟩
theorem risesF_mono (a : Int) (zs : List Int) (was was' : Int) (hw : was' ≤ was) (h : risesF a was zs = true) : risesF a was' zs = true := by
  cases zs with
  | nil => rfl
  | cons z zs =>
    simp only [risesF, Bool.and_eq_true, decide_eq_true_eq] at h ⊢
    exact ⟨by omega, h.2⟩
theorem risesF_suffix (a : Int) (zs : List Int) : ∀ (k : Nat) (was : Int), risesF a was zs = true → risesF a was (zs.drop k) = true := by
  induction zs with
  | nil => intro k was _; simp [risesF]
  | cons z zs ih =>
    intro k was h
    cases k with
    | zero => exact h
    | succ k =>
      simp only [risesF, Bool.and_eq_true, decide_eq_true_eq] at h
      exact risesF_mono a _ _ _ (by omega) (ih k _ h.2)
theorem risesF_pair (a : Int) (zs : List Int) : ∀ (k : Nat) (was y z : Int), risesF a was zs = true → zs[k]? = some y → zs[k + 1]? = some z → was < far a y ∧ far a y < far a z := by
  induction zs with
  | nil => intro k was y z _ h; simp at h
  | cons u zs ih =>
    intro k was y z h h1 h2
    simp only [risesF, Bool.and_eq_true, decide_eq_true_eq] at h
    cases k with
    | zero =>
      simp only [List.getElem?_cons_zero, Option.some.injEq] at h1
      subst h1
      cases zs with
      | nil => simp at h2
      | cons t ts =>
        simp at h2
        subst h2
        have := h.2
        simp only [risesF, Bool.and_eq_true, decide_eq_true_eq] at this
        exact ⟨h.1, this.1⟩
    | succ k =>
      have := ih k _ y z h.2 (by simpa using h1) (by simpa using h2)
      exact ⟨by omega, this.2⟩
-- WALK: first the rows that do not rise
set_option maxRecDepth 100000 in
set_option maxHeartbeats 4000000 in
theorem lrises_no (a : Int) (ad : Option Addr) (cap : Nat) (zs : List Int) (hn : zs.length ≤ 60) (hr : risesF a 0 zs = false) (w0 w : World) (h : Good w0 w) (hk : Ints w (.slice ad zs.length cap) zs) :
    Calls Tryd.prog 7 #[.int .i64 a, .slice ad zs.length cap] w fun e w' => e = .returned (.bool true) ∧ Good w0 w' := by
  have HK := Lib.hid hk
  have HALL := Lib.hid (badK_all a zs hr)
  have HR := Lib.hid hr
  clear hk hr
  go_enter Tryd.func7, Tryd.ntmps7
  go_wp2_with fail
  refine (rises_g w0 _ zs (by omega) a _ HK.out h).mono ?_; rintro e w1 ⟨rfl, hb1, h1⟩
  rw [HR.out]
  have HK1 := Lib.hid (HK.out.below hb1)
  have HG1 := Lib.hid h1
  clear hb1 h1 HK
  go_wp2
  go_loopw [5, 6] (fun s i wr => ∃ k : Nat, k ≤ zs.length ∧ i = .int .i64 k ∧ s = .bool (badK a zs k) ∧ Below w1.heap.size w1 wr) (fun _ i _ => zs.length - (intOf i).toNat)
  case atStart => exact ⟨0, Nat.zero_le _, rfl, rfl, Below.refl _ _⟩
  case round =>
    obtain ⟨k, hk, rfl, rfl, hbw⟩ := hrel
    have HB := Lib.hid hbw
    clear hbw
    by_cases hlt : k < zs.length
    · have hz : zs[k]? = some (zs.getD k 0) := by rw [List.getD_eq_getElem?_getD, List.getElem?_eq_getElem hlt]; rfl
      have hy : zs[k - 1]? = some (zs.getD (k - 1) 0) := by rw [List.getD_eq_getElem?_getD, List.getElem?_eq_getElem (by omega)]; rfl
      have hs : badK a zs (k + 1) = (badK a zs k || (far a (zs.getD k 0) == 0 || (decide (0 < k) && decide (far a (zs.getD k 0) ≤ far a (zs.getD (k - 1) 0))))) := rfl
      obtain ⟨b, off, rfl, hcell⟩ := (HK1.out.below HB.out).at hz
      obtain ⟨b', off', hbo, hcell'⟩ := (HK1.out.below HB.out).at hy
      cases hbo
      clear hz hy
      obtain ⟨z, ez⟩ : ∃ z, zs.getD k 0 = z := ⟨_, rfl⟩
      obtain ⟨y, ey⟩ : ∃ y, zs.getD (k - 1) 0 = y := ⟨_, rfl⟩
      rw [ez] at hcell hs
      rw [ey] at hcell' hs
      clear ez ey
      cases hb : badK a zs k with
      | true =>
        rw [hb, Bool.true_or] at hs
        have HS := Lib.hid hs
        clear hs hb hcell'
        go_wp2
        go_quiet ((go_at_call 14; exact Calls.quiet_of_same ((far_any _ _ _).mono fun _ _ h => ⟨h.1, h.2.symm⟩)))
        go_wp2
        go_roundw
        case rel => exact ⟨k + 1, by omega, by go_num, by rw [HS.out], below_drew HB.out _⟩
        case measure => simp [intOf]; omega
      | false =>
        rw [hb, Bool.false_or] at hs
        clear hb
        cases t1 : far a z == 0 with
        | true =>
          rw [t1, Bool.true_or] at hs
          have HS := Lib.hid hs
          clear hs hcell'
          go_wp2
          go_quiet ((go_at_call 14; exact Calls.quiet_of_same ((far_any _ _ _).mono fun _ _ h => ⟨h.1, h.2.symm⟩)))
          go_wp2
          go_roundw
          case rel => exact ⟨k + 1, by omega, by go_num, by rw [HS.out], below_drew HB.out _⟩
          case measure => simp [intOf]; omega
        | false =>
          rw [t1, Bool.false_or] at hs
          by_cases hk0 : k = 0
          · subst hk0
            have HS := Lib.hid (show badK a zs (0 + 1) = false from hs)
            clear hs hcell'
            simp only [Nat.add_zero] at hcell
            go_wp2
            go_quiet ((go_at_call 14; exact Calls.quiet_of_same ((far_any _ _ _).mono fun _ _ h => ⟨h.1, h.2.symm⟩)))
            go_wp2
            go_roundw
            case rel => exact ⟨0 + 1, by omega, by go_num, by rw [HS.out], below_drew HB.out _⟩
            case measure => simp [intOf]; omega
          · obtain ⟨j, rfl⟩ : ∃ j, k = j + 1 := ⟨k - 1, by omega⟩
            rw [decide_eq_true (show 0 < j + 1 by omega), Bool.true_and] at hs
            rw [show j + 1 - 1 = j by omega] at hcell'
            cases t3 : decide (far a z ≤ far a y) with
            | true =>
              rw [t3] at hs
              have HS := Lib.hid hs
              clear hs
              go_wp2
              go_quiet ((go_at_call 14; exact Calls.quiet_of_same ((far_any _ _ _).mono fun _ _ h => ⟨h.1, h.2.symm⟩)))
              go_wp2
              go_roundw
              case rel => exact ⟨j + 1 + 1, by omega, by go_num, by rw [HS.out], below_drew HB.out _⟩
              case measure => simp [intOf]; omega
            | false =>
              rw [t3] at hs
              have HS := Lib.hid hs
              clear hs
              go_wp2
              go_quiet ((go_at_call 14; exact Calls.quiet_of_same ((far_any _ _ _).mono fun _ _ h => ⟨h.1, h.2.symm⟩)))
              go_wp2
              go_roundw
              case rel => exact ⟨j + 1 + 1, by omega, by go_num, by rw [HS.out], below_drew HB.out _⟩
              case measure => simp [intOf]; omega
    · obtain rfl : k = zs.length := by omega
      rw [HALL.out]
      have h3 := HG1.out.below HB.out
      go_wp2_with (go_at_call 9; refine (wakes_g w0 _ h3).mono ?_; rintro e w' ⟨rfl, hg⟩)
      go_ret
      exact ⟨rfl, hg⟩
end Go.Proofs.YtfbkhendpbhfcaaDoor
