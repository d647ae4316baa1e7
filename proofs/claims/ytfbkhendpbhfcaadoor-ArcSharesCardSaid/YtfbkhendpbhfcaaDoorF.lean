/-
  The walks of ArcOwner and ArcShares.
-/
import Derived.Test.YtfbkhendpbhfcaaDoorE
namespace Go.Proofs.YtfbkhendpbhfcaaDoor
open Go.RowKit Go.Shelf

theorem own_y (w0 : World) (v : Value) (zs : List Int) (h1 : 1 ≤ zs.length) (hn : zs.length ≤ 1000) (key : Int) (w : World) (hi : Ints w v zs) (h : Good w0 w) :
    Calls Tryd.prog 10 #[v, .int .i64 key] w fun e w' => e = .returned (.tuple #[.int .i64 (ownA key zs), .bool true]) ∧ Good w0 w' ∧ Ints w' v zs := by
  have hne : zs ≠ [] := fun e => by rw [e] at h1; simp at h1
  refine (own_any v zs hn key w hi).mono ?_
  rintro e w' ⟨he, hb⟩
  rw [decide_eq_true hne] at he
  exact ⟨he, h.below hb, hi.below hb⟩

theorem ownA_mem (key : Int) (zs : List Int) (h1 : 1 ≤ zs.length) : ∃ z ∈ zs, ownA key zs = z % 65536 := by
  rcases ownK_facts key zs with ⟨rfl, -⟩ | ⟨⟨z, hz, e, -⟩, -⟩
  · simp at h1
  · exact ⟨z, hz, e⟩
theorem ownA_le (key : Int) (zs : List Int) {z : Int} (hz : z ∈ zs) : far key (ownA key zs) ≤ far key z := by
  rcases ownK_facts key zs with ⟨rfl, -⟩ | ⟨⟨u, -, e1, e2⟩, hall⟩
  · cases hz
  · unfold ownA
    rw [e1, far_place, ← e2]
    exact hall z hz
theorem ownA_self (zs : List Int) {z : Int} (hz : z ∈ zs) : ownA z zs = z % 65536 := by
  obtain ⟨u, -, e⟩ := ownA_mem z zs (List.length_pos_of_mem hz)
  have h := ownA_le z zs hz
  rw [far_self] at h
  rw [e] at h ⊢
  unfold far at h
  omega
theorem owner_upto (zs : List Int) (key : Int) {z : Int} (hz : z ∈ zs) (_hne : ¬ z % 65536 = ownA key zs) : upB z key (ownA key zs) = true := by
  obtain ⟨u, -, e⟩ := ownA_mem key zs (List.length_pos_of_mem hz)
  have h := ownA_le key zs hz
  rw [e] at h ⊢
  unfold upB
  by_cases hk : key % 65536 = u % 65536
  · simp [hk]
  · rw [inB_yes]
    · rfl
    · unfold far at h ⊢
      omega

set_option maxRecDepth 100000 in
set_option maxHeartbeats 4000000 in
theorem owner_walk (v : Value) (zs : List Int) (_hm : ∀ z ∈ zs, z = z) (hn : zs.length ≤ maxLen) (key : Int) (w0 w : World) (h : Good w0 w) (hk : Ints w v zs) :
    Calls Tryd.prog 5 #[v, .int .i64 key] w fun e w' => e = .returned (.bool true) ∧ Good w0 w' := by
  unfold maxLen at hn
  obtain ⟨ad, cap, rfl⟩ := hk.shape
  by_cases c1 : (zs.length : Int) < 1
  · clear hk
    go_enter Tryd.func5, Tryd.ntmps5
    go_wp2_with (go_at_call 9; refine (wakes_g w0 _ h).mono ?_; rintro e w' ⟨rfl, hg⟩)
    go_ret
    exact ⟨rfl, hg⟩
  · by_cases c2 : (60 : Int) < (zs.length : Int)
    · clear hk
      go_enter Tryd.func5, Tryd.ntmps5
      go_wp2_with (go_at_call 9; refine (wakes_g w0 _ h).mono ?_; rintro e w' ⟨rfl, hg⟩)
      go_ret
      exact ⟨rfl, hg⟩
    · have HK := Lib.hid hk
      clear hk
      obtain ⟨o, ho⟩ : ∃ o, o = ownA key zs := ⟨_, rfl⟩
      have HO := Lib.hid ho
      clear ho
      go_enter Tryd.func5, Tryd.ntmps5
      go_wp2_with fail
      refine (own_y w0 _ zs (by omega) (by omega) _ _ HK.out h).mono ?_; rintro e w1 ⟨rfl, h1, hk1⟩
      rw [← HO.out]
      have HG1 := Lib.hid h1
      have HK1 := Lib.hid hk1
      clear h1 hk1
      go_wp2
      go_loopw [7, 8] (fun s i wr => ∃ k : Nat, k ≤ zs.length ∧ i = .int .i64 k ∧ s = .bool ((zs.take k).any fun z => z % 65536 == o) ∧ Good w0 wr ∧ Ints wr (.slice ad zs.length cap) zs) (fun _ i _ => zs.length - (intOf i).toNat)
      case atStart => exact ⟨0, Nat.zero_le _, rfl, rfl, HG1.out, HK1.out⟩
      case round =>
        obtain ⟨k, hk, rfl, rfl, hg, hi⟩ := hrel
        have HG := Lib.hid hg
        have HI := Lib.hid hi
        clear hg hi
        by_cases hlt : k < zs.length
        · obtain ⟨z, hz⟩ : ∃ z, zs[k]? = some z := ⟨_, List.getElem?_eq_getElem hlt⟩
          have hmem : z ∈ zs := List.mem_of_getElem? hz
          have HS := Lib.hid (show (zs.take (k + 1)).any (fun z => z % 65536 == o) = ((zs.take k).any (fun z => z % 65536 == o) || z % 65536 == o) by
            rw [List.take_add_one, hz]; simp)
          obtain ⟨b, off, rfl, hcell⟩ := HI.out.at hz
          have e1 := ownA_self zs hmem
          have hle := ownA_le key zs hmem
          have hup := owner_upto zs key hmem
          rw [← HO.out] at hle hup
          have e2 : decide (far key z < far key o) = false := decide_eq_false (by omega)
          have HZ := Lib.hid hz
          clear hz hmem hle
          by_cases e3 : z % 65536 = o
          · have e4 : (z % 65536 == o) = true := by simpa using e3
            have e5 : (z % 65536 != o) = false := by simpa using e3
            rw [e4, Bool.or_true] at HS
            clear hup e3
            cases hb : (zs.take k).any (fun z => z % 65536 == o) with
            | true =>
              go_wp2_with (first
                | (go_at_call 12; refine (place_any _ _).mono ?_; rintro e w' ⟨rfl, rfl⟩)
                | (go_at_call 14; refine (far_any _ _ _).mono ?_; rintro e w' ⟨rfl, rfl⟩)
                | (go_at_call 18; refine (upto_any _ _ _ _).mono ?_; rintro e w' ⟨rfl, rfl⟩))
              refine (own_y w0 _ zs (by omega) (by omega) _ _ HI.out HG.out).mono ?_; rintro e w2 ⟨rfl, h2, hk2⟩
              obtain ⟨b', off', hbo, hcell2⟩ := hk2.at HZ.out
              cases hbo
              have H2 := Lib.hid h2
              have HK2 := Lib.hid hk2
              clear hk2 h2
              go_wp2_with (first
                | (go_at_call 12; refine (place_any _ _).mono ?_; rintro e w' ⟨rfl, rfl⟩)
                | (go_at_call 14; refine (far_any _ _ _).mono ?_; rintro e w' ⟨rfl, rfl⟩)
                | (go_at_call 18; refine (upto_any _ _ _ _).mono ?_; rintro e w' ⟨rfl, rfl⟩))
              go_roundw
              case rel => exact ⟨k + 1, by omega, by go_num, by rw [HS.out], H2.out, HK2.out⟩
              case measure => simp [intOf]; omega
            | false =>
              go_wp2_with (first
                | (go_at_call 12; refine (place_any _ _).mono ?_; rintro e w' ⟨rfl, rfl⟩)
                | (go_at_call 14; refine (far_any _ _ _).mono ?_; rintro e w' ⟨rfl, rfl⟩)
                | (go_at_call 18; refine (upto_any _ _ _ _).mono ?_; rintro e w' ⟨rfl, rfl⟩))
              refine (own_y w0 _ zs (by omega) (by omega) _ _ HI.out HG.out).mono ?_; rintro e w2 ⟨rfl, h2, hk2⟩
              obtain ⟨b', off', hbo, hcell2⟩ := hk2.at HZ.out
              cases hbo
              have H2 := Lib.hid h2
              have HK2 := Lib.hid hk2
              clear hk2 h2
              go_wp2_with (first
                | (go_at_call 12; refine (place_any _ _).mono ?_; rintro e w' ⟨rfl, rfl⟩)
                | (go_at_call 14; refine (far_any _ _ _).mono ?_; rintro e w' ⟨rfl, rfl⟩)
                | (go_at_call 18; refine (upto_any _ _ _ _).mono ?_; rintro e w' ⟨rfl, rfl⟩))
              go_roundw
              case rel => exact ⟨k + 1, by omega, by go_num, by rw [HS.out], H2.out, HK2.out⟩
              case measure => simp [intOf]; omega
          · have e4 : (z % 65536 == o) = false := by simpa using e3
            have e5 : (z % 65536 != o) = true := by simpa using e3
            have e6 := hup e3
            rw [e4, Bool.or_false] at HS
            clear hup e3
            cases hb : (zs.take k).any (fun z => z % 65536 == o) with
            | true =>
              rw [hb] at HS
              go_wp2_with (first
                | (go_at_call 12; refine (place_any _ _).mono ?_; rintro e w' ⟨rfl, rfl⟩)
                | (go_at_call 14; refine (far_any _ _ _).mono ?_; rintro e w' ⟨rfl, rfl⟩)
                | (go_at_call 18; refine (upto_any _ _ _ _).mono ?_; rintro e w' ⟨rfl, rfl⟩))
              refine (own_y w0 _ zs (by omega) (by omega) _ _ HI.out HG.out).mono ?_; rintro e w2 ⟨rfl, h2, hk2⟩
              obtain ⟨b', off', hbo, hcell2⟩ := hk2.at HZ.out
              cases hbo
              have H2 := Lib.hid h2
              have HK2 := Lib.hid hk2
              clear hk2 h2
              go_wp2_with (first
                | (go_at_call 12; refine (place_any _ _).mono ?_; rintro e w' ⟨rfl, rfl⟩)
                | (go_at_call 14; refine (far_any _ _ _).mono ?_; rintro e w' ⟨rfl, rfl⟩)
                | (go_at_call 18; refine (upto_any _ _ _ _).mono ?_; rintro e w' ⟨rfl, rfl⟩))
              go_roundw
              case rel => exact ⟨k + 1, by omega, by go_num, by rw [HS.out], H2.out, HK2.out⟩
              case measure => simp [intOf]; omega
            | false =>
              rw [hb] at HS
              go_wp2_with (first
                | (go_at_call 12; refine (place_any _ _).mono ?_; rintro e w' ⟨rfl, rfl⟩)
                | (go_at_call 14; refine (far_any _ _ _).mono ?_; rintro e w' ⟨rfl, rfl⟩)
                | (go_at_call 18; refine (upto_any _ _ _ _).mono ?_; rintro e w' ⟨rfl, rfl⟩))
              refine (own_y w0 _ zs (by omega) (by omega) _ _ HI.out HG.out).mono ?_; rintro e w2 ⟨rfl, h2, hk2⟩
              obtain ⟨b', off', hbo, hcell2⟩ := hk2.at HZ.out
              cases hbo
              have H2 := Lib.hid h2
              have HK2 := Lib.hid hk2
              clear hk2 h2
              go_wp2_with (first
                | (go_at_call 12; refine (place_any _ _).mono ?_; rintro e w' ⟨rfl, rfl⟩)
                | (go_at_call 14; refine (far_any _ _ _).mono ?_; rintro e w' ⟨rfl, rfl⟩)
                | (go_at_call 18; refine (upto_any _ _ _ _).mono ?_; rintro e w' ⟨rfl, rfl⟩))
              go_roundw
              case rel => exact ⟨k + 1, by omega, by go_num, by rw [HS.out], H2.out, HK2.out⟩
              case measure => simp [intOf]; omega
        · obtain rfl : k = zs.length := by omega
          have hany : ((zs.take zs.length).any fun z => z % 65536 == o) = true := by
            obtain ⟨u, hu, e⟩ := ownA_mem key zs (by omega)
            rw [List.take_length, List.any_eq_true]
            exact ⟨u, hu, by rw [HO.out, e]; simp⟩
          rw [hany]
          have h3 := HG.out
          go_wp2_with (go_at_call 9; refine (wakes_g w0 _ h3).mono ?_; rintro e w' ⟨rfl, hg⟩)
          go_ret
          exact ⟨rfl, hg⟩
end Go.Proofs.YtfbkhendpbhfcaaDoor
