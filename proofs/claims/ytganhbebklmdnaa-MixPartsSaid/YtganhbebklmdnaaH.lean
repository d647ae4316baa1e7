/-
  The law MixParts: the plain facts, and the walk.
-/
import Derived.Test.YtganhbebklmdnaaF
import Derived.Test.YtganhbebklmdnaaG
namespace Go.Proofs.Ytganhbebklmdnaa
open Go.RowKit Go.Shelf

theorem allFine_step (ss : List ByteArray) (k : Nat) (s : ByteArray) (hs : ss[k]? = some s) : allFine (ss.take (k + 1)) = (allFine (ss.take k) && fine s) := by
  rw [List.take_add_one, hs]
  unfold allFine
  simp [List.all_append]

/-- Where a key of two parts leads. -/
theorem byteAt_left (a b : ByteArray) (j : Nat) (h : j < a.size) : byteAt (a ++ b) j = byteAt a j := by
  rw [byteAt_list, byteAt_list]
  have e : (a ++ b).data.toList = a.data.toList ++ b.data.toList := by simp
  rw [e, List.getElem?_append_left (by simpa using h)]
theorem byteAt_right (a b : ByteArray) (j : Nat) : byteAt (a ++ b) (a.size + j) = byteAt b j := by
  rw [byteAt_list, byteAt_list]
  have e : (a ++ b).data.toList = a.data.toList ++ b.data.toList := by simp
  have el : a.data.toList.length = a.size := by simp
  rw [e, List.getElem?_append_right (by omega), el]
  rw [show a.size + j - a.size = j from by omega]
theorem goF_parts (x : Int) (a b : ByteArray) (k : Nat) : goF x (a ++ b) (a.size + k) = goF (goF x a a.size) b k := by
  induction k with
  | zero =>
    show goF x (a ++ b) a.size = (goF x a a.size) % 65536
    rw [goF_same x (a ++ b) a a.size fun j hj => byteAt_left a b j hj]
    have := goF_bd x a a.size
    omega
  | succ k ih =>
    show nextF (goF x (a ++ b) (a.size + k)) (byteAt (a ++ b) (a.size + k)) = nextF (goF (goF x a a.size) b k) (byteAt b k)
    rw [ih, byteAt_right]
theorem size_parts (a b : ByteArray) : (a ++ b).size = a.size + b.size := ByteArray.size_append

/-- A number of a row. -/
theorem Lies.at {w : World} {a : Option Addr} {n cap : Nat} {xs : List Value} (h : Lies w (.slice a n cap) xs) {k : Nat} {u : Value} (hu : xs[k]? = some u) :
    ∃ b off, a = some ⟨b, off, none⟩ ∧ w.cell? ⟨b, off + k, none⟩ = some u := by
  obtain ⟨a', cap', e, h⟩ := h
  cases e
  rcases h with rfl | ⟨b, off, rfl, -, hc⟩
  · simp at hu
  · exact ⟨b, off, rfl, hc k u hu⟩
theorem Lies.shape {w : World} {v : Value} {xs : List Value} (h : Lies w v xs) : ∃ a cap, v = .slice a xs.length cap := by
  obtain ⟨a, cap, hv, -⟩ := h
  exact ⟨a, cap, hv⟩

set_option maxRecDepth 100000 in
set_option maxHeartbeats 4000000 in
theorem parts_in (a b : ByteArray) (v : Value) (ss : List ByteArray) (hm : ∀ s ∈ ss, s.size ≤ maxLen) (w0 : World) (w : World) (hk : Keys w v ss) (h : Good w0 w)
    (c1 : a.size + b.size ≤ 20) (c2 : ss.length ≤ 20) :
    Calls Try.prog 6 #[.string a, .string b, v] w fun e w' => e = .returned (.bool true) ∧ Good w0 w' := by
  obtain ⟨ad, cap, rfl⟩ := hk.shape
  have HK := Lib.hid hk
  have HM := Lib.hid hm
  clear hk hm
  go_enter Try.func6, Try.ntmps6
  go_wp2
  go_loop [7, 8] (fun f i => ∃ k : Nat, k ≤ ss.length ∧ i = .int .i64 k ∧ f = .bool (allFine (ss.take k))) (fun _ i => ss.length - (intOf i).toNat)
  case atStart => exact ⟨0, Nat.zero_le _, rfl, rfl⟩
  case round =>
    obtain ⟨k, hkl, rfl, rfl⟩ := hrel
    by_cases hlt : k < ss.length
    · obtain ⟨s, hs⟩ : ∃ s, ss[k]? = some s := ⟨_, List.getElem?_eq_getElem hlt⟩
      obtain ⟨bb, off, rfl, hcell⟩ := HK.out.at hs
      have HE := Lib.hid (allFine_step ss k s hs)
      clear hs
      by_cases hbig : (100 : Int) < (s.size : Int)
      · go_wp2_with (go_at_call 8; refine (wakes_g w0 _ h).mono ?_; rintro e w' ⟨rfl, hg⟩)
        go_ret
        exact ⟨rfl, hg⟩
      · cases hf : allFine (ss.take k) with
        | false =>
          go_wp2
          go_round
          case rel => exact ⟨k + 1, by omega, by go_num, by rw [HE.out, hf]; rfl⟩
          case measure => simp [intOf]; omega
        | true =>
          by_cases d1 : (1 : Int) ≤ (s.size : Int)
          · by_cases d2 : (s.size : Int) ≤ (20 : Int)
            · go_wp2
              go_round
              case rel => exact ⟨k + 1, by omega, by go_num, by rw [HE.out, hf]; unfold fine; rw [decide_eq_true (by omega), decide_eq_true (by omega)]; rfl⟩
              case measure => simp [intOf]; omega
            · go_wp2
              go_round
              case rel => exact ⟨k + 1, by omega, by go_num, by rw [HE.out, hf]; unfold fine; rw [decide_eq_true (by omega), decide_eq_false (by omega)]; rfl⟩
              case measure => simp [intOf]; omega
          · go_wp2
            go_round
            case rel => exact ⟨k + 1, by omega, by go_num, by rw [HE.out, hf]; unfold fine; rw [decide_eq_false (by omega)]; rfl⟩
            case measure => simp [intOf]; omega
    · obtain rfl : k = ss.length := by omega
      rw [List.take_length]
      have HAB : Hid ((a ++ b).size ≤ maxLen) := Lib.hid (by rw [size_parts]; unfold maxLen; omega)
      have HA : Hid (a.size ≤ maxLen) := Lib.hid (by unfold maxLen; omega)
      have HB : Hid (b.size ≤ maxLen) := Lib.hid (by unfold maxLen; omega)
      by_cases hz : a.size + b.size = 0
      · have e1 : ofE (a ++ b) = 2 := by unfold ofE; rw [size_parts, if_pos (by omega)]
        have hz1 : ¬ (0 : Int) < (a.size : Int) + (b.size : Int) := by omega
        clear hz
        cases hf : allFine ss with
        | true =>
          go_wp2_with fail
          refine (of_any _ HAB.out _).mono ?_; rintro e w1 ⟨rfl, hb1⟩
          have H1 := Lib.hid (h.below hb1)
          have HK1 := Lib.hid (HK.out.below hb1)
          clear hb1
          go_wp2_with fail
          refine (row_yes _ ss (by omega) HM.out hf _ HK1.out).mono ?_; rintro e w2 ⟨v1, rfl, hv1, hb2'⟩
          have H2 := Lib.hid (H1.out.below hb2')
          have HK2 := Lib.hid (HK1.out.below hb2')
          have HF := Lib.hid hf
          obtain ⟨ax, cx, rfl⟩ := hv1.shape
          rw [places_length] at *
          have HV1 := Lib.hid hv1
          clear hb2' hv1
          go_wp2_with fail
          go_loopw [13] (fun i wr => ∃ k : Nat, k ≤ ss.length ∧ i = .int .i64 k ∧ Below w2.heap.size w2 wr) (fun i _ => ss.length - (intOf i).toNat)
          case atStart => exact ⟨0, Nat.zero_le _, rfl, Below.refl _ _⟩
          case round =>
            obtain ⟨k, hkl, rfl, hbr⟩ := hrel
            have HBR := Lib.hid hbr
            clear hbr
            by_cases hlt : k < ss.length
            · obtain ⟨s, hs⟩ : ∃ s, ss[k]? = some s := ⟨_, List.getElem?_eq_getElem hlt⟩
              obtain ⟨bb, off, rfl, hcell⟩ := (HK2.out.below HBR.out).at hs
              have hmem : s ∈ ss := List.mem_of_getElem? hs
              have hsz := Lib.hid (HM.out s hmem)
              have hE := ofE_fine (List.all_eq_true.1 HF.out s hmem)
              have HP : Hid ((places ss)[k]? = some (.int .i64 (ofP s))) := Lib.hid (by unfold places; rw [List.getElem?_map, hs]; rfl)
              clear hs hmem
              go_wp2_with fail
              refine (of_any s hsz.out _).mono ?_; rintro e w3 ⟨rfl, hb3⟩
              obtain ⟨bx, ox, rfl, hcx⟩ := ((HV1.out.below HBR.out).below hb3).at HP.out
              have HB3 := Lib.hid (HBR.out.trans (hb3.mono HBR.out.size))
              clear hb3 hcell
              go_wp2
              go_roundw
              case rel => exact ⟨k + 1, by omega, by go_num, HB3.out⟩
              case measure => simp [intOf]; omega
            · obtain rfl : k = ss.length := by omega
              go_wp2_with fail
              refine (wakes_g w0 _ (H2.out.below HBR.out)).mono ?_; rintro e w6 ⟨rfl, h6⟩
              go_wp2
              go_ret
              exact ⟨rfl, h6⟩
        | false =>
          go_wp2_with fail
          refine (of_any _ HAB.out _).mono ?_; rintro e w1 ⟨rfl, hb1⟩
          have H1 := Lib.hid (h.below hb1)
          have HK1 := Lib.hid (HK.out.below hb1)
          clear hb1
          go_wp2_with fail
          refine (row_no _ ss (by omega) HM.out hf _ HK1.out).mono ?_; rintro e w2 ⟨rfl, hb2'⟩
          have H2 := Lib.hid (H1.out.below hb2')
          clear hb2'
          go_wp2_with fail
          refine (wakes_g w0 _ H2.out).mono ?_; rintro e w6 ⟨rfl, h6⟩
          go_wp2
          go_ret
          exact ⟨rfl, h6⟩
      · have e1 : ofE (a ++ b) = 0 := by unfold ofE; rw [size_parts, if_neg (by omega)]
        have e2 : ofP (a ++ b) = goF (goF 7 a a.size) b b.size := by unfold ofP; rw [size_parts, if_neg (by omega), goF_parts]
        have hz1 : (0 : Int) < (a.size : Int) + (b.size : Int) := by omega
        clear hz
        cases hf : allFine ss with
        | true =>
          go_wp2_with fail
          refine (of_any _ HAB.out _).mono ?_; rintro e w1 ⟨rfl, hb1⟩
          have H1 := Lib.hid (h.below hb1)
          have HKa := Lib.hid (HK.out.below hb1)
          clear hb1
          go_wp2_with fail
          refine (go_any 7 a HA.out _).mono ?_; rintro e w1a ⟨rfl, hb1a⟩
          have H1a := Lib.hid (H1.out.below hb1a)
          have HKb := Lib.hid (HKa.out.below hb1a)
          clear hb1a
          go_wp2_with fail
          refine (go_any _ b HB.out _).mono ?_; rintro e w1b ⟨rfl, hb1b⟩
          have H1b := Lib.hid (H1a.out.below hb1b)
          have HK1 := Lib.hid (HKb.out.below hb1b)
          clear hb1b
          go_wp2_with fail
          refine (row_yes _ ss (by omega) HM.out hf _ HK1.out).mono ?_; rintro e w2 ⟨v1, rfl, hv1, hb2'⟩
          have H2 := Lib.hid (H1b.out.below hb2')
          have HK2 := Lib.hid (HK1.out.below hb2')
          have HF := Lib.hid hf
          obtain ⟨ax, cx, rfl⟩ := hv1.shape
          rw [places_length] at *
          have HV1 := Lib.hid hv1
          clear hb2' hv1
          go_wp2_with fail
          go_loopw [13] (fun i wr => ∃ k : Nat, k ≤ ss.length ∧ i = .int .i64 k ∧ Below w2.heap.size w2 wr) (fun i _ => ss.length - (intOf i).toNat)
          case atStart => exact ⟨0, Nat.zero_le _, rfl, Below.refl _ _⟩
          case round =>
            obtain ⟨k, hkl, rfl, hbr⟩ := hrel
            have HBR := Lib.hid hbr
            clear hbr
            by_cases hlt : k < ss.length
            · obtain ⟨s, hs⟩ : ∃ s, ss[k]? = some s := ⟨_, List.getElem?_eq_getElem hlt⟩
              obtain ⟨bb, off, rfl, hcell⟩ := (HK2.out.below HBR.out).at hs
              have hmem : s ∈ ss := List.mem_of_getElem? hs
              have hsz := Lib.hid (HM.out s hmem)
              have hE := ofE_fine (List.all_eq_true.1 HF.out s hmem)
              have HP : Hid ((places ss)[k]? = some (.int .i64 (ofP s))) := Lib.hid (by unfold places; rw [List.getElem?_map, hs]; rfl)
              clear hs hmem
              go_wp2_with fail
              refine (of_any s hsz.out _).mono ?_; rintro e w3 ⟨rfl, hb3⟩
              obtain ⟨bx, ox, rfl, hcx⟩ := ((HV1.out.below HBR.out).below hb3).at HP.out
              have HB3 := Lib.hid (HBR.out.trans (hb3.mono HBR.out.size))
              clear hb3 hcell
              go_wp2
              go_roundw
              case rel => exact ⟨k + 1, by omega, by go_num, HB3.out⟩
              case measure => simp [intOf]; omega
            · obtain rfl : k = ss.length := by omega
              go_wp2_with fail
              refine (wakes_g w0 _ (H2.out.below HBR.out)).mono ?_; rintro e w6 ⟨rfl, h6⟩
              go_wp2
              go_ret
              exact ⟨rfl, h6⟩
        | false =>
          go_wp2_with fail
          refine (of_any _ HAB.out _).mono ?_; rintro e w1 ⟨rfl, hb1⟩
          have H1 := Lib.hid (h.below hb1)
          have HKa := Lib.hid (HK.out.below hb1)
          clear hb1
          go_wp2_with fail
          refine (go_any 7 a HA.out _).mono ?_; rintro e w1a ⟨rfl, hb1a⟩
          have H1a := Lib.hid (H1.out.below hb1a)
          have HKb := Lib.hid (HKa.out.below hb1a)
          clear hb1a
          go_wp2_with fail
          refine (go_any _ b HB.out _).mono ?_; rintro e w1b ⟨rfl, hb1b⟩
          have H1b := Lib.hid (H1a.out.below hb1b)
          have HK1 := Lib.hid (HKb.out.below hb1b)
          clear hb1b
          go_wp2_with fail
          refine (row_no _ ss (by omega) HM.out hf _ HK1.out).mono ?_; rintro e w2 ⟨rfl, hb2'⟩
          have H2 := Lib.hid (H1b.out.below hb2')
          clear hb2'
          go_wp2_with fail
          refine (wakes_g w0 _ H2.out).mono ?_; rintro e w6 ⟨rfl, h6⟩
          go_wp2
          go_ret
          exact ⟨rfl, h6⟩

set_option maxRecDepth 100000 in
set_option maxHeartbeats 2000000 in
theorem parts_walk (a : ByteArray) (_ha : a.size ≤ maxLen) (za : a.size ≤ 140737488351232) (b : ByteArray) (_hb : b.size ≤ maxLen) (zb : b.size ≤ 140737488351232) (v : Value) (ss : List ByteArray) (hm : ∀ s ∈ ss, s.size ≤ maxLen) (_hn : ss.length ≤ maxLen) (w0 : World) (w : World) (h : Good w0 w) (hk : Keys w v ss) :
    Calls Try.prog 6 #[.string a, .string b, v] w fun e w' => e = .returned (.bool true) ∧ Good w0 w' := by
  by_cases c1 : (20 : Int) < (a.size : Int) + (b.size : Int)
  · obtain ⟨ad, cap, rfl⟩ := hk.shape
    clear hk hm
    go_enter Try.func6, Try.ntmps6
    go_wp2_with (go_at_call 8; refine (wakes_g w0 _ h).mono ?_; rintro e w' ⟨rfl, hg⟩)
    go_ret
    exact ⟨rfl, hg⟩
  · by_cases c2 : (20 : Int) < (ss.length : Int)
    · obtain ⟨ad, cap, rfl⟩ := hk.shape
      clear hk hm
      go_enter Try.func6, Try.ntmps6
      go_wp2_with (go_at_call 8; refine (wakes_g w0 _ h).mono ?_; rintro e w' ⟨rfl, hg⟩)
      go_ret
      exact ⟨rfl, hg⟩
    · exact parts_in a b v ss hm w0 w hk h (by omega) (by omega)
end Go.Proofs.Ytganhbebklmdnaa
