/-
  The walk of ArcShares.
-/
import Derived.Test.YtfbkhendpbhfcaaDoorF
namespace Go.Proofs.YtfbkhendpbhfcaaDoor
open Go.RowKit Go.Shelf

/-- Whether one of them is at place p. -/
def isAny (p : Int) (zs : List Int) : Bool := zs.any fun z => z % 65536 == p
theorem isAny_iff (p : Int) (zs : List Int) : isAny p zs = true ↔ ∃ z ∈ zs, z % 65536 = p := by simp [isAny, List.any_eq_true]
theorem isAny_succ (p : Int) (zs : List Int) (k : Nat) (z : Int) (hz : zs[k]? = some z) : isAny p (zs.take (k + 1)) = (isAny p (zs.take k) || z % 65536 == p) := by
  unfold isAny
  rw [List.take_add_one, hz]
  simp
theorem shares_is (p : Int) (hp : p % 65536 = p) (zs : List Int) (h1 : 1 ≤ zs.length) : (ownA p zs == p) = isAny p zs := by
  rw [Bool.eq_iff_iff, isAny_iff, beq_iff_eq]
  obtain ⟨u, hu, e⟩ := ownA_mem p zs h1
  constructor
  · intro h; exact ⟨u, hu, by omega⟩
  · rintro ⟨z, hz, ez⟩
    have h := ownA_le p zs hz
    rw [e] at h ⊢
    unfold far at h
    omega
theorem shares_same (p : Int) (hp : p % 65536 = p) (zs : List Int) (h1 : 1 ≤ zs.length) (h : isAny p zs = false) : ownA p zs = ownA (p + 1) zs := by
  obtain ⟨u, hu, e⟩ := ownA_mem p zs h1
  obtain ⟨v, hv, e'⟩ := ownA_mem (p + 1) zs h1
  have g1 := ownA_le p zs hv
  have g2 := ownA_le (p + 1) zs hu
  have n1 : ¬ u % 65536 = p := fun q => by have := (isAny_iff p zs).2 ⟨u, hu, q⟩; rw [h] at this; cases this
  have n2 : ¬ v % 65536 = p := fun q => by have := (isAny_iff p zs).2 ⟨v, hv, q⟩; rw [h] at this; cases this
  rw [e] at g1 ⊢
  rw [e'] at g2 ⊢
  unfold far at g1 g2
  omega
theorem shares_next (p : Int) (hp : p % 65536 = p) (zs : List Int) {z : Int} (hz : z ∈ zs) (hne : ¬ z % 65536 = p) (hb : ¬ ownA (p + 1) zs = p) : ¬ far p z < far p (ownA (p + 1) zs) := by
  obtain ⟨v, hv, e'⟩ := ownA_mem (p + 1) zs (List.length_pos_of_mem hz)
  have g := ownA_le (p + 1) zs hz
  rw [e'] at g hb ⊢
  unfold far at g ⊢
  omega

set_option maxRecDepth 100000 in
set_option maxHeartbeats 4000000 in
theorem shares_walk (v : Value) (zs : List Int) (_hm : ∀ z ∈ zs, z = z) (hn : zs.length ≤ maxLen) (key : Int) (w0 w : World) (h : Good w0 w) (hk : Ints w v zs) :
    Calls Tryd.prog 8 #[v, .int .i64 key] w fun e w' => e = .returned (.bool true) ∧ Good w0 w' := by
  unfold maxLen at hn
  obtain ⟨ad, cap, rfl⟩ := hk.shape
  by_cases c1 : (zs.length : Int) < 1
  · clear hk
    go_enter Tryd.func8, Tryd.ntmps8
    go_wp2_with (go_at_call 9; refine (wakes_g w0 _ h).mono ?_; rintro e w' ⟨rfl, hg⟩)
    go_ret
    exact ⟨rfl, hg⟩
  · by_cases c2 : (60 : Int) < (zs.length : Int)
    · clear hk
      go_enter Tryd.func8, Tryd.ntmps8
      go_wp2_with (go_at_call 9; refine (wakes_g w0 _ h).mono ?_; rintro e w' ⟨rfl, hg⟩)
      go_ret
      exact ⟨rfl, hg⟩
    · have HK := Lib.hid hk
      have HH := Lib.hid h
      clear hk h
      have hpb := mod_bd key
      go_enter Tryd.func8, Tryd.ntmps8
      go_wp2_with (go_at_call 12; refine (place_any _ _).mono ?_; rintro e w' ⟨rfl, rfl⟩)
      obtain ⟨p, hp⟩ : ∃ p, p = key % 65536 := ⟨_, rfl⟩
      rw [← hp] at hpb ⊢
      obtain ⟨hp1, hp2⟩ := hpb
      have hpp : p % 65536 = p := by omega
      have HP := Lib.hid hpp
      clear hp hpp
      go_loopw [6, 7] (fun s i wr => ∃ k : Nat, k ≤ zs.length ∧ i = .int .i64 k ∧ s = .bool (isAny p (zs.take k)) ∧ Below w.heap.size w wr) (fun _ i _ => zs.length - (intOf i).toNat)
      case atStart => exact ⟨0, Nat.zero_le _, rfl, rfl, Below.refl _ _⟩
      case round =>
        obtain ⟨k, hk, rfl, rfl, hbw⟩ := hrel
        have HB := Lib.hid hbw
        clear hbw
        by_cases hlt : k < zs.length
        · obtain ⟨z, hz⟩ : ∃ z, zs[k]? = some z := ⟨_, List.getElem?_eq_getElem hlt⟩
          have HS := Lib.hid (isAny_succ p zs k z hz)
          obtain ⟨b, off, rfl, hcell⟩ := (HK.out.below HB.out).at hz
          clear hz
          cases hb : isAny p (zs.take k) with
          | true =>
            rw [hb, Bool.true_or] at HS
            go_wp2_with (go_at_call 12; refine (place_any _ _).mono ?_; rintro e w' ⟨rfl, rfl⟩)
            go_roundw
            case rel => exact ⟨k + 1, by omega, by go_num, by rw [HS.out], HB.out⟩
            case measure => simp [intOf]; omega
          | false =>
            rw [hb, Bool.false_or] at HS
            go_wp2_with (go_at_call 12; refine (place_any _ _).mono ?_; rintro e w' ⟨rfl, rfl⟩)
            go_roundw
            case rel => exact ⟨k + 1, by omega, by go_num, by rw [HS.out], HB.out⟩
            case measure => simp [intOf]; omega
        · obtain rfl : k = zs.length := by omega
          rw [List.take_length]
          have h1 : 1 ≤ zs.length := by omega
          have es := shares_is p HP.out zs h1
          have HSAME := Lib.hid (fun hf => shares_same p HP.out zs h1 hf)
          have hnext : ∀ z, z ∈ zs → ¬ z % 65536 = p → ¬ ownA (p + 1) zs = p → ¬ far p z < far p (ownA (p + 1) zs) := fun z hz => shares_next p HP.out zs hz
          have HNEXT := Lib.hid hnext
          clear hnext
          obtain ⟨a, ha⟩ : ∃ a, a = ownA p zs := ⟨_, rfl⟩
          obtain ⟨bb, hbb⟩ : ∃ bb, bb = ownA (p + 1) zs := ⟨_, rfl⟩
          rw [← ha] at es HSAME
          rw [← hbb] at HSAME HNEXT
          have HA := Lib.hid ha
          have HBB := Lib.hid hbb
          clear ha hbb
          have hg0 := HH.out.below HB.out
          have hk0 := HK.out.below HB.out
          go_wp2_with fail
          refine (own_y w0 _ zs (by omega) (by omega) _ _ hk0 hg0).mono ?_; rintro e w1 ⟨rfl, h1, hk1⟩
          rw [← HA.out]
          have HG1 := Lib.hid h1
          have HK1 := Lib.hid hk1
          clear h1 hk1 hg0 hk0
          go_wp2_with fail
          refine (own_y w0 _ zs (by omega) (by omega) _ _ HK1.out HG1.out).mono ?_; rintro e w2 ⟨rfl, h2, hk2⟩
          rw [← HBB.out]
          have HG2 := Lib.hid h2
          have HK2 := Lib.hid hk2
          clear h2 hk2
          cases hi : isAny p zs with
          | true =>
            rw [hi] at es
            clear hi
            go_wp2
            go_loopw [12] (fun i wr => ∃ k : Nat, k ≤ zs.length ∧ i = .int .i64 k ∧ Below w2.heap.size w2 wr) (fun i _ => zs.length - (intOf i).toNat)
            case atStart => exact ⟨0, Nat.zero_le _, rfl, Below.refl _ _⟩
            case round =>
              obtain ⟨k, hk, rfl, hbw⟩ := hrel
              have HB := Lib.hid hbw
              clear hbw
              by_cases hlt : k < zs.length
              · obtain ⟨z, hz⟩ : ∃ z, zs[k]? = some z := ⟨_, List.getElem?_eq_getElem hlt⟩
                obtain ⟨b, off, rfl, hcell⟩ := (HK2.out.below HB.out).at hz
                have hmem : z ∈ zs := List.mem_of_getElem? hz
                clear hz
                by_cases c3 : z % 65536 = p
                · have c4 : (z % 65536 != p) = false := by simpa using c3
                  clear c3 hmem
                  go_wp2
                  go_quiet (first | (go_at_call 12; exact Calls.quiet_of_same ((place_any _ _).mono fun _ _ h => ⟨h.1, h.2.symm⟩)) | (go_at_call 14; exact Calls.quiet_of_same ((far_any _ _ _).mono fun _ _ h => ⟨h.1, h.2.symm⟩)))
                  go_wp2
                  go_roundw
                  case rel => exact ⟨k + 1, by omega, by go_num, below_drew HB.out _⟩
                  case measure => simp [intOf]; omega
                · have c4 : (z % 65536 != p) = true := by simpa using c3
                  by_cases c5 : far p z < far p bb
                  · have c6 : (bb != p) = false := by
                      have := HNEXT.out z hmem c3
                      rw [bne_eq_false_iff_eq]
                      exact Classical.byContradiction fun q => (by have := this q; omega)
                    have c7 : decide (far p z < far p bb) = true := decide_eq_true c5
                    clear c3 c5 hmem
                    go_wp2
                    go_quiet (first | (go_at_call 12; exact Calls.quiet_of_same ((place_any _ _).mono fun _ _ h => ⟨h.1, h.2.symm⟩)) | (go_at_call 14; exact Calls.quiet_of_same ((far_any _ _ _).mono fun _ _ h => ⟨h.1, h.2.symm⟩)))
                    go_wp2
                    go_roundw
                    case rel => exact ⟨k + 1, by omega, by go_num, below_drew HB.out _⟩
                    case measure => simp [intOf]; omega
                  · have c7 : decide (far p z < far p bb) = false := decide_eq_false c5
                    clear c3 c5 hmem
                    go_wp2
                    go_quiet (first | (go_at_call 12; exact Calls.quiet_of_same ((place_any _ _).mono fun _ _ h => ⟨h.1, h.2.symm⟩)) | (go_at_call 14; exact Calls.quiet_of_same ((far_any _ _ _).mono fun _ _ h => ⟨h.1, h.2.symm⟩)))
                    go_wp2
                    go_roundw
                    case rel => exact ⟨k + 1, by omega, by go_num, below_drew HB.out _⟩
                    case measure => simp [intOf]; omega
              · obtain rfl : k = zs.length := by omega
                have h3 := HG2.out.below HB.out
                go_wp2_with (go_at_call 9; refine (wakes_g w0 _ h3).mono ?_; rintro e w' ⟨rfl, hg⟩)
                go_ret
                exact ⟨rfl, hg⟩
          | false =>
            rw [hi] at es
            have e2 : (a != bb) = false := by
              rw [bne_eq_false_iff_eq]
              exact HSAME.out hi
            clear hi
            go_wp2
            go_loopw [12] (fun i wr => ∃ k : Nat, k ≤ zs.length ∧ i = .int .i64 k ∧ Below w2.heap.size w2 wr) (fun i _ => zs.length - (intOf i).toNat)
            case atStart => exact ⟨0, Nat.zero_le _, rfl, Below.refl _ _⟩
            case round =>
              obtain ⟨k, hk, rfl, hbw⟩ := hrel
              have HB := Lib.hid hbw
              clear hbw
              by_cases hlt : k < zs.length
              · obtain ⟨z, hz⟩ : ∃ z, zs[k]? = some z := ⟨_, List.getElem?_eq_getElem hlt⟩
                obtain ⟨b, off, rfl, hcell⟩ := (HK2.out.below HB.out).at hz
                have hmem : z ∈ zs := List.mem_of_getElem? hz
                clear hz
                clear hmem
                go_wp2
                go_quiet (first | (go_at_call 12; exact Calls.quiet_of_same ((place_any _ _).mono fun _ _ h => ⟨h.1, h.2.symm⟩)) | (go_at_call 14; exact Calls.quiet_of_same ((far_any _ _ _).mono fun _ _ h => ⟨h.1, h.2.symm⟩)))
                go_wp2
                go_roundw
                case rel => exact ⟨k + 1, by omega, by go_num, below_drew HB.out _⟩
                case measure => simp [intOf]; omega
              · obtain rfl : k = zs.length := by omega
                have h3 := HG2.out.below HB.out
                go_wp2_with (go_at_call 9; refine (wakes_g w0 _ h3).mono ?_; rintro e w' ⟨rfl, hg⟩)
                go_ret
                exact ⟨rfl, hg⟩
end Go.Proofs.YtfbkhendpbhfcaaDoor
