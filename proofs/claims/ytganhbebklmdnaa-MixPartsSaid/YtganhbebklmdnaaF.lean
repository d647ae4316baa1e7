/-
  The law MixTells: the walk.
-/
import Derived.Test.YtganhbebklmdnaaC
namespace Go.Proofs.Ytganhbebklmdnaa
open Go.RowKit Go.Shelf

theorem Keys.at {w : World} {a : Option Addr} {cap : Nat} {ss : List ByteArray} (h : Keys w (.slice a ss.length cap) ss) {k : Nat} {s : ByteArray} (hs : ss[k]? = some s) :
    ∃ b off, a = some ⟨b, off, none⟩ ∧ w.cell? ⟨b, off + k, none⟩ = some (.string s) := by
  rcases h.parts with ⟨a', cap', -, rfl⟩ | ⟨b, off, cap', e, hl, hc⟩
  · simp at hs
  · cases e
    exact ⟨b, off, rfl, hc k s hs⟩
theorem Keys.shape {w : World} {v : Value} {ss : List ByteArray} (h : Keys w v ss) : ∃ a cap, v = .slice a ss.length cap := by
  obtain ⟨a, cap, hv, -⟩ := h
  exact ⟨a, cap, by rw [hv, List.length_map]⟩
theorem places_ints (ss : List ByteArray) : places ss = (ss.map ofP).map (.int .i64 ·) := by simp [places]

set_option maxRecDepth 100000 in
set_option maxHeartbeats 4000000 in
theorem tells_in (a b : Int) (hb1 : 0 ≤ b) (hb2 : b ≤ 255) (key : ByteArray) (hkey : key.size ≤ maxLen) (v : Value) (ss : List ByteArray) (hm : ∀ s ∈ ss, s.size ≤ maxLen) (w0 : World) (w : World) (hk : Keys w v ss) (h : Good w0 w)
    (c1 : ¬ (100 : Int) < (key.size : Int)) (c2 : ¬ (20 : Int) < (ss.length : Int)) :
    Calls Try.prog 3 #[.int .i64 a, .int .u8 b, .string key, v] w fun e w' => e = .returned (.bool true) ∧ Good w0 w' := by
  obtain ⟨ad, cap, rfl⟩ := hk.shape
  have HK := Lib.hid hk
  have HM := Lib.hid hm
  have hl : ss.length ≤ 20 := by omega
  have HL := Lib.hid hkey
  clear hk hm hkey
  go_enter Try.func3, Try.ntmps3
  go_wp2
  go_loop [9] (fun i => ∃ k : Nat, k ≤ ss.length ∧ i = .int .i64 k) (fun i => ss.length - (intOf i).toNat)
  case atStart => exact ⟨0, Nat.zero_le _, rfl⟩
  case round =>
    obtain ⟨k, hkl, rfl⟩ := hrel
    by_cases hlt : k < ss.length
    · obtain ⟨s, hs⟩ : ∃ s, ss[k]? = some s := ⟨_, List.getElem?_eq_getElem hlt⟩
      obtain ⟨bb, off, rfl, hcell⟩ := HK.out.at hs
      clear hs
      by_cases hbig : (100 : Int) < (s.size : Int)
      · go_wp2_with (go_at_call 8; refine (wakes_g w0 _ h).mono ?_; rintro e w' ⟨rfl, hg⟩)
        go_ret
        exact ⟨rfl, hg⟩
      · go_wp2
        go_round
        case rel => exact ⟨k + 1, by omega, by go_num⟩
        case measure => simp [intOf]; omega
    · obtain rfl : k = ss.length := by omega
      go_wp2_with fail
      refine (of_any _ HL.out _).mono ?_; rintro e w1 ⟨rfl, hb1'⟩
      have H1 := Lib.hid (h.below hb1')
      have HK1 := Lib.hid (HK.out.below hb1')
      clear hb1'
      go_wp2_with fail
      refine (refof_any _ HL.out _).mono ?_; rintro e w1' ⟨rfl, rfl⟩
      go_wp2_with fail
      cases hf : allFine ss with
      | true =>
        refine (row_yes _ ss (by omega) HM.out hf _ HK1.out).mono ?_; rintro e w2 ⟨v1, rfl, hv1, hb2'⟩
        have H2 := Lib.hid (H1.out.below hb2')
        have HK2 := Lib.hid (HK1.out.below hb2')
        have HV1 := Lib.hid hv1
        clear hb2' hv1
        go_wp2_with fail
        refine (refrow_yes _ ss (by omega) HM.out hf _ HK2.out).mono ?_; rintro e w3 ⟨v2, rfl, hv2, hb3'⟩
        have H3 := Lib.hid (H2.out.below hb3')
        have HV1' := Lib.hid (HV1.out.below hb3')
        have HV2 := Lib.hid hv2
        clear hb3' hv2 hf
        go_wp2_with (first
          | (go_at_call 13; refine (next_any _ _ hb1 hb2 _).mono ?_; rintro e w' ⟨rfl, rfl⟩)
          | (go_at_call 14; refine (refnext_any _ _ hb1 hb2 _).mono ?_; rintro e w' ⟨rfl, rfl⟩)
          | (go_at_call 15; refine (before_any _ _ hb1 hb2 _).mono ?_; rintro e w' ⟨rfl, rfl⟩)
          | (go_at_call 16; refine (refbefore_any _ _ hb1 hb2 _).mono ?_; rintro e w' ⟨rfl, rfl⟩))
        refine (go_any _ _ HL.out _).mono ?_; rintro e w4 ⟨rfl, hb4'⟩
        have H4 := Lib.hid (H3.out.below hb4')
        have hv1'' := HV1'.out.below hb4'
        have hv2'' := HV2.out.below hb4'
        have HI := Lib.hid (ints_same _ _ _ _ (places_ints ss) (by rw [places_length]; omega) _ hv1'' hv2'')
        clear hb4' hv1'' hv2''
        go_wp2_with fail
        refine (refgo_any _ _ HL.out _).mono ?_; rintro e w4' ⟨rfl, rfl⟩
        go_wp2_with fail
        refine HI.out.mono ?_; rintro e w5 ⟨rfl, hb5'⟩
        have H5 := Lib.hid (H4.out.below hb5')
        clear hb5'
        go_wp2_with fail
        refine (wakes_g w0 _ H5.out).mono ?_; rintro e w6 ⟨rfl, h6⟩
        go_wp2
        go_ret
        exact ⟨rfl, h6⟩
      | false =>
        refine (row_no _ ss (by omega) HM.out hf _ HK1.out).mono ?_; rintro e w2 ⟨rfl, hb2'⟩
        have H2 := Lib.hid (H1.out.below hb2')
        have HK2 := Lib.hid (HK1.out.below hb2')
        clear hb2'
        go_wp2_with fail
        refine (refrow_no _ ss (by omega) HM.out hf _ HK2.out).mono ?_; rintro e w3 ⟨rfl, hb3'⟩
        have H3 := Lib.hid (H2.out.below hb3')
        clear hb3' hf
        go_wp2_with (first
          | (go_at_call 13; refine (next_any _ _ hb1 hb2 _).mono ?_; rintro e w' ⟨rfl, rfl⟩)
          | (go_at_call 14; refine (refnext_any _ _ hb1 hb2 _).mono ?_; rintro e w' ⟨rfl, rfl⟩)
          | (go_at_call 15; refine (before_any _ _ hb1 hb2 _).mono ?_; rintro e w' ⟨rfl, rfl⟩)
          | (go_at_call 16; refine (refbefore_any _ _ hb1 hb2 _).mono ?_; rintro e w' ⟨rfl, rfl⟩))
        refine (go_any _ _ HL.out _).mono ?_; rintro e w4 ⟨rfl, hb4'⟩
        have H4 := Lib.hid (H3.out.below hb4')
        clear hb4'
        go_wp2_with fail
        refine (refgo_any _ _ HL.out _).mono ?_; rintro e w4' ⟨rfl, rfl⟩
        go_wp2_with fail
        refine (ints_nil none none 0 0 _).mono ?_; rintro e w5 ⟨rfl, rfl⟩
        go_wp2_with fail
        refine (wakes_g w0 _ H4.out).mono ?_; rintro e w6 ⟨rfl, h6⟩
        go_wp2
        go_ret
        exact ⟨rfl, h6⟩

set_option maxRecDepth 100000 in
set_option maxHeartbeats 1000000 in
theorem tells_walk (a b : Int) (hb1 : 0 ≤ b) (hb2 : b ≤ 255) (key : ByteArray) (hkey : key.size ≤ maxLen) (v : Value) (ss : List ByteArray) (hm : ∀ s ∈ ss, s.size ≤ maxLen) (_hn : ss.length ≤ maxLen) (w0 : World) (w : World) (h : Good w0 w) (hk : Keys w v ss) :
    Calls Try.prog 3 #[.int .i64 a, .int .u8 b, .string key, v] w fun e w' => e = .returned (.bool true) ∧ Good w0 w' := by
  by_cases c1 : (100 : Int) < (key.size : Int)
  · obtain ⟨ad, cap, rfl⟩ := hk.shape
    clear hk hm
    go_enter Try.func3, Try.ntmps3
    go_wp2_with (go_at_call 8; refine (wakes_g w0 _ h).mono ?_; rintro e w' ⟨rfl, hg⟩)
    go_ret
    exact ⟨rfl, hg⟩
  · by_cases c2 : (20 : Int) < (ss.length : Int)
    · obtain ⟨ad, cap, rfl⟩ := hk.shape
      clear hk hm
      go_enter Try.func3, Try.ntmps3
      go_wp2_with (go_at_call 8; refine (wakes_g w0 _ h).mono ?_; rintro e w' ⟨rfl, hg⟩)
      go_ret
      exact ⟨rfl, hg⟩
    · exact tells_in a b hb1 hb2 key hkey v ss hm w0 w hk h c1 c2
end Go.Proofs.Ytganhbebklmdnaa
