/-
  Owners: what package arc and its reference answer.
-/
import Derived.Test.YtfbkhendpbhfcaaDoorA
import Derived.Test.YtfbkhendpbhfcaaDoorScopes
namespace Go.Proofs.YtfbkhendpbhfcaaDoor
open Go.RowKit

/-- The slice value v holds the values xs. -/
def Lies (w : World) (v : Value) (xs : List Value) : Prop :=
  ∃ a cap, v = .slice a xs.length cap ∧ (xs = [] ∨ ∃ b off, a = some ⟨b, off, none⟩ ∧ b < w.heap.size ∧ ∀ j u, xs[j]? = some u → w.cell? ⟨b, off + j, none⟩ = some u)
theorem Lies.below {w w' : World} {v : Value} {xs : List Value} (h : Lies w v xs) (hb : Below w.heap.size w w') : Lies w' v xs := by
  obtain ⟨a, cap, hv, h⟩ := h
  refine ⟨a, cap, hv, ?_⟩
  rcases h with h | ⟨b, off, ha, hl, hc⟩
  · exact .inl h
  · exact .inr ⟨b, off, ha, Nat.lt_of_lt_of_le hl hb.size, fun j u hj => (hb.cell (p := ⟨b, off + j, none⟩) hl).trans (hc j u hj)⟩
theorem Lies.nil (w : World) : Lies w (.slice none 0 0) [] := ⟨none, 0, rfl, .inl rfl⟩
/-- The slice value v holds the numbers zs. -/
def Ints (w : World) (v : Value) (zs : List Int) : Prop := Lies w v (zs.map (.int .i64 ·))
theorem Ints.below {w w' : World} {v : Value} {zs : List Int} (h : Ints w v zs) (hb : Below w.heap.size w w') : Ints w' v zs := Lies.below h hb
theorem Ints.parts {w : World} {v : Value} {zs : List Int} (h : Ints w v zs) : (∃ a cap, v = .slice a 0 cap ∧ zs = []) ∨
    ∃ b off cap, v = .slice (some ⟨b, off, none⟩) zs.length cap ∧ b < w.heap.size ∧ ∀ j z, zs[j]? = some z → w.cell? ⟨b, off + j, none⟩ = some (.int .i64 z) := by
  obtain ⟨a, cap, hv, h⟩ := h
  rw [List.length_map] at hv
  rcases h with h | ⟨b, off, rfl, hl, hc⟩
  · have : zs = [] := List.map_eq_nil_iff.1 h
    subst this
    exact .inl ⟨a, cap, hv, rfl⟩
  · exact .inr ⟨b, off, cap, hv, hl, fun j s hs => hc j _ (by rw [List.getElem?_map, hs]; rfl)⟩
theorem Ints.shape {w : World} {v : Value} {zs : List Int} (h : Ints w v zs) : ∃ a cap, v = .slice a zs.length cap := by
  obtain ⟨a, cap, hv, -⟩ := h
  rw [List.length_map] at hv
  exact ⟨a, cap, hv⟩
theorem Ints.at {w : World} {a : Option Addr} {n cap : Nat} {zs : List Int} (h : Ints w (.slice a n cap) zs) {k : Nat} {u : Int} (hu : zs[k]? = some u) :
    ∃ b off, a = some ⟨b, off, none⟩ ∧ w.cell? ⟨b, off + k, none⟩ = some (.int .i64 u) := by
  obtain ⟨a', cap', e, h⟩ := h
  cases e
  rcases h with h | ⟨b, off, rfl, -, hc⟩
  · have : zs = [] := List.map_eq_nil_iff.1 h
    subst this
    simp at hu
  · exact ⟨b, off, rfl, hc k _ (by rw [List.getElem?_map, hu]; rfl)⟩

theorem far_place (a b : Int) : far a (b % 65536) = far a b := by unfold far; omega
/-- One of the row more: who is the least far, and how far. -/
def ownS (key : Int) (p : Int × Int) (z : Int) : Int × Int := if far key z < p.2 then (z % 65536, far key z) else p
def ownK (key : Int) (zs : List Int) : Int × Int := zs.foldl (ownS key) (0, 65536)
theorem ownK_succ (key : Int) (zs : List Int) (k : Nat) (z : Int) (hz : zs[k]? = some z) : ownK key (zs.take (k + 1)) = ownS key (ownK key (zs.take k)) z := by
  have h : zs.take (k + 1) = zs.take k ++ [z] := by rw [List.take_add_one, hz]; rfl
  unfold ownK
  rw [h, List.foldl_append]
  rfl
theorem ownK_snoc (key : Int) (zs : List Int) (z : Int) : ownK key (zs ++ [z]) = ownS key (ownK key zs) z := by
  unfold ownK
  rw [List.foldl_append]
  rfl
/-- The least is one of them, and the least. -/
theorem ownK_facts (key : Int) (zs : List Int) : (zs = [] ∧ ownK key zs = (0, 65536)) ∨
    ((∃ z ∈ zs, (ownK key zs).1 = z % 65536 ∧ (ownK key zs).2 = far key z) ∧ (∀ z ∈ zs, (ownK key zs).2 ≤ far key z)) := by
  suffices h : ∀ n (zs : List Int), zs.length = n → (zs = [] ∧ ownK key zs = (0, 65536)) ∨
    ((∃ z ∈ zs, (ownK key zs).1 = z % 65536 ∧ (ownK key zs).2 = far key z) ∧ (∀ z ∈ zs, (ownK key zs).2 ≤ far key z)) from h _ zs rfl
  intro n
  induction n with
  | zero => intro zs h; exact .inl ⟨List.length_eq_zero_iff.1 h, by rw [List.length_eq_zero_iff.1 h]; rfl⟩
  | succ n ih =>
    intro zs h
    have hne : zs ≠ [] := fun e => by rw [e] at h; cases h
    obtain ⟨ys, y, rfl⟩ : ∃ ys y, zs = ys ++ [y] := ⟨zs.dropLast, zs.getLast hne, (List.dropLast_concat_getLast hne).symm⟩
    right
    rw [ownK_snoc]
    have hfb := far_bd key y
    rcases ih ys (by simpa using h) with ⟨rfl, e⟩ | ⟨⟨z, hz, e1, e2⟩, hall⟩
    · rw [e]
      unfold ownS
      rw [if_pos hfb.2]
      exact ⟨⟨y, by simp, rfl, rfl⟩, by simp⟩
    · unfold ownS
      by_cases c : far key y < (ownK key ys).2
      · rw [if_pos c]
        refine ⟨⟨y, by simp, rfl, rfl⟩, fun u hu => ?_⟩
        simp only [List.mem_append, List.mem_singleton] at hu
        rcases hu with hu | rfl
        · have := hall u hu; show far key y ≤ far key u; omega
        · exact Int.le_refl _
      · rw [if_neg c]
        refine ⟨⟨z, by simp [hz], e1, e2⟩, fun u hu => ?_⟩
        simp only [List.mem_append, List.mem_singleton] at hu
        rcases hu with hu | rfl
        · exact hall u hu
        · omega
theorem ownK_bd (key : Int) (zs : List Int) : 0 ≤ (ownK key zs).2 ∧ (ownK key zs).2 ≤ 65536 := by
  rcases ownK_facts key zs with ⟨-, e⟩ | ⟨⟨z, -, -, e⟩, -⟩
  · rw [e]; exact ⟨by decide, by decide⟩
  · have := far_bd key z; omega
theorem ownK_far (key : Int) (zs : List Int) (h : zs ≠ []) : far key (ownK key zs).1 = (ownK key zs).2 := by
  rcases ownK_facts key zs with ⟨e, -⟩ | ⟨⟨z, -, e1, e2⟩, -⟩
  · exact absurd e h
  · rw [e1, e2, far_place]
theorem ownK_ok (key : Int) (zs : List Int) : decide ((ownK key zs).2 < 65536) = decide (zs ≠ []) := by
  rcases ownK_facts key zs with ⟨rfl, e⟩ | ⟨⟨z, hz, -, e⟩, -⟩
  · rw [e]; rfl
  · have := far_bd key z
    rw [decide_eq_true (show (ownK key zs).2 < 65536 by omega), decide_eq_true (show zs ≠ [] from fun e => by rw [e] at hz; cases hz)]
/-- The owner that the row tells. -/
def ownA (key : Int) (zs : List Int) : Int := (ownK key zs).1

theorem below_drew {n : Nat} {w0 w : World} (h : Below n w0 w) (m : Nat) : Below n w0 (w.drewN m) := ⟨h.1, h.2, h.3, h.4, h.5⟩


set_option maxRecDepth 100000 in
set_option maxHeartbeats 2000000 in
theorem own_in (b off cap : Nat) (zs : List Int) (hn : zs.length ≤ 1000) (key : Int) (w : World) (hbl : b < w.heap.size) (hc : ∀ j z, zs[j]? = some z → w.cell? ⟨b, off + j, none⟩ = some (.int .i64 z)) :
    Calls Tryd.prog 10 #[.slice (some ⟨b, off, none⟩) zs.length cap, .int .i64 key] w fun e w' => e = .returned (.tuple #[.int .i64 (ownK key zs).1, .bool (decide ((ownK key zs).2 < 65536))]) ∧ Below w.heap.size w w' := by
  have HC := Lib.hid hc
  clear hc
  go_enter Tryd.func10, Tryd.ntmps10
  go_wp2
  refine wp_scope_labels (fun l a' w' => Below w.heap.size w w' ∧ ∃ k : Nat, ((l = 1 ∧ k ≤ zs.length) ∨ (l = 0 ∧ k = zs.length)) ∧ ∃ u9 u10 u11 u12 u13 u14 u15 u16 u17 u18 u19 u20 u21 u22 u23 u24 u25 u26 u27 u28 u29 u30 u31 u32 u33 : Value, a' = { tmps := #[.slice (some ⟨b, off, none⟩) zs.length cap, .int .i64 key, undef, undef, .int .i64 0, .bool false, .int .i64 (ownK key (zs.take k)).1, .int .i64 (ownK key (zs.take k)).2, .int .i64 k, u9, u10, u11, u12, u13, u14, u15, u16, u17, u18, u19, u20, u21, u22, u23, u24, u25, u26, u27, u28, u29, u30, u31, u32, u33], defers := [] })
    (fun l a' _ => l * (1 + (zs.length - (intOf (a'.tmps.getD 8 undef)).toNat))) ?first ?pass
  case pass =>
    rintro l a' wr ⟨hb, k, hk, u9, u10, u11, u12, u13, u14, u15, u16, u17, u18, u19, u20, u21, u22, u23, u24, u25, u26, u27, u28, u29, u30, u31, u32, u33, rfl⟩
    have HB := Lib.hid hb
    clear hb
    rcases hk with ⟨rfl, hk⟩ | ⟨rfl, rfl⟩
    · refine ⟨_, rfl, ?_⟩
      by_cases hlt : k < zs.length
      · obtain ⟨z, hz⟩ : ∃ z, zs[k]? = some z := ⟨_, List.getElem?_eq_getElem hlt⟩
        have hcell : wr.cell? ⟨b, off + k, none⟩ = some (.int .i64 z) := (HB.out.cell (p := ⟨b, off + k, none⟩) hbl).trans (HC.out k z hz)
        have HS := Lib.hid (ownK_succ key zs k z hz)
        clear hz
        by_cases c : far key z < (ownK key (zs.take k)).2
        · rw [ownS, if_pos c] at HS
          go_wp2_with (first | (go_at_call 14; refine (far_any _ _ _).mono ?_; rintro e w1 ⟨rfl, rfl⟩) | (go_at_call 12; refine (place_any _ _).mono ?_; rintro e w1 ⟨rfl, rfl⟩))
          go_step3
          refine ⟨⟨HB.out, k + 1, .inl ⟨rfl, by omega⟩, _, _, _, _, _, _, _, _, _, _, _, _, _, _, _, _, _, _, _, _, _, _, _, _, _, by rw [HS.out]; rfl⟩, by simp [intOf]; omega⟩
        · rw [ownS, if_neg c] at HS
          go_wp2_with (first | (go_at_call 14; refine (far_any _ _ _).mono ?_; rintro e w1 ⟨rfl, rfl⟩) | (go_at_call 12; refine (place_any _ _).mono ?_; rintro e w1 ⟨rfl, rfl⟩))
          go_step3
          refine ⟨⟨HB.out, k + 1, .inl ⟨rfl, by omega⟩, _, _, _, _, _, _, _, _, _, _, _, _, _, _, _, _, _, _, _, _, _, _, _, _, _, by rw [HS.out]; rfl⟩, by simp [intOf]; omega⟩
      · obtain rfl : k = zs.length := by omega
        go_wp2
        go_step3
        refine ⟨⟨HB.out, zs.length, .inr ⟨rfl, rfl⟩, _, _, _, _, _, _, _, _, _, _, _, _, _, _, _, _, _, _, _, _, _, _, _, _, _, rfl⟩, by simp; omega⟩
    · refine ⟨_, rfl, ?_⟩
      go_wp2
      (try rw [jumps_ret])
      go_ret2
      have e := HB.out
      (try rw [List.take_length])
      exact ⟨rfl, e⟩
  have HB := Lib.hid (Below.refl w.heap.size w)
  by_cases h0 : zs.length = 0
  · go_wp2
    go_step3
    go_wp2
    go_step3
    refine ⟨HB.out, 0, .inr ⟨rfl, by omega⟩, _, _, _, _, _, _, _, _, _, _, _, _, _, _, _, _, _, _, _, _, _, _, _, _, _, rfl⟩
  · obtain ⟨z, hz⟩ : ∃ z, zs[0]? = some z := ⟨_, List.getElem?_eq_getElem (by omega)⟩
    have hcell : w.cell? ⟨b, off, none⟩ = some (.int .i64 z) := HC.out 0 z hz
    have hs := ownK_succ key zs 0 z hz
    have c : far key z < 65536 := (far_bd key z).2
    rw [ownS, if_pos (show far key z < (ownK key (zs.take 0)).2 from c)] at hs
    have HS := Lib.hid hs
    clear hs hz
    go_wp2
    go_step3
    go_wp2_with (first | (go_at_call 14; refine (far_any _ _ _).mono ?_; rintro e w1 ⟨rfl, rfl⟩) | (go_at_call 12; refine (place_any _ _).mono ?_; rintro e w1 ⟨rfl, rfl⟩))
    go_step3
    refine ⟨HB.out, 1, .inl ⟨rfl, by omega⟩, _, _, _, _, _, _, _, _, _, _, _, _, _, _, _, _, _, _, _, _, _, _, _, _, _, by rw [HS.out]; rfl⟩

theorem own_nil (a : Option Addr) (cap : Nat) (key : Int) (w : World) :
    Calls Tryd.prog 10 #[.slice a 0 cap, .int .i64 key] w fun e w' => e = .returned (.tuple #[.int .i64 0, .bool false]) ∧ Below w.heap.size w w' := by
  go_enter Tryd.func10, Tryd.ntmps10
  go_wp2
  refine wp_scope_labels (fun l a' w' => Below w.heap.size w w' ∧ l = 0 ∧ ∃ u9 u10 u11 u12 u13 u14 u15 u16 u17 u18 u19 u20 u21 u22 u23 u24 u25 u26 u27 u28 u29 u30 u31 u32 u33 : Value, a' = { tmps := #[.slice a 0 cap, .int .i64 key, undef, undef, .int .i64 0, .bool false, .int .i64 0, .int .i64 65536, .int .i64 0, u9, u10, u11, u12, u13, u14, u15, u16, u17, u18, u19, u20, u21, u22, u23, u24, u25, u26, u27, u28, u29, u30, u31, u32, u33], defers := [] })
    (fun l a' _ => 0) ?first ?pass
  case pass =>
    rintro l a' wr ⟨hb, rfl, u9, u10, u11, u12, u13, u14, u15, u16, u17, u18, u19, u20, u21, u22, u23, u24, u25, u26, u27, u28, u29, u30, u31, u32, u33, rfl⟩
    have HB := Lib.hid hb
    clear hb
    refine ⟨_, rfl, ?_⟩
    go_wp2
    (try rw [jumps_ret])
    go_ret2
    exact ⟨rfl, HB.out⟩
  have HB := Lib.hid (Below.refl w.heap.size w)
  go_wp2
  go_step3
  go_wp2
  go_step3
  refine ⟨HB.out, rfl, _, _, _, _, _, _, _, _, _, _, _, _, _, _, _, _, _, _, _, _, _, _, _, _, _, rfl⟩

theorem own_any (v : Value) (zs : List Int) (hn : zs.length ≤ 1000) (key : Int) (w : World) (h : Ints w v zs) :
    Calls Tryd.prog 10 #[v, .int .i64 key] w fun e w' => e = .returned (.tuple #[.int .i64 (ownA key zs), .bool (decide (zs ≠ []))]) ∧ Below w.heap.size w w' := by
  rcases h.parts with ⟨a, cap, rfl, rfl⟩ | ⟨b, off, cap, rfl, hl, hc⟩
  · exact own_nil a cap key w
  · rw [← ownK_ok key zs]
    exact own_in b off cap zs hn key w hl hc

theorem refown_nil (a : Option Addr) (cap : Nat) (key : Int) (w : World) :
    Calls Tryd.prog 11 #[.slice a 0 cap, .int .i64 key] w fun e w' => e = .returned (.tuple #[.int .i64 0, .bool false]) ∧ Below w.heap.size w w' := by
  go_enter Tryd.func11, Tryd.ntmps11
  go_wp2
  go_ret2
  exact ⟨rfl, Below.refl _ _⟩

set_option maxRecDepth 100000 in
set_option maxHeartbeats 2000000 in
theorem refown_in (b off cap : Nat) (zs : List Int) (hn : zs.length ≤ 1000) (hne : zs ≠ []) (key : Int) (w : World) (hbl : b < w.heap.size) (hc : ∀ j z, zs[j]? = some z → w.cell? ⟨b, off + j, none⟩ = some (.int .i64 z)) :
    Calls Tryd.prog 11 #[.slice (some ⟨b, off, none⟩) zs.length cap, .int .i64 key] w fun e w' => e = .returned (.tuple #[.int .i64 (ownK key zs).1, .bool true]) ∧ Below w.heap.size w w' := by
  have h0 : ¬ zs.length = 0 := fun e => hne (List.length_eq_zero_iff.1 e)
  obtain ⟨z0, hz⟩ : ∃ z, zs[0]? = some z := ⟨_, List.getElem?_eq_getElem (by omega)⟩
  have hcell : w.cell? ⟨b, off, none⟩ = some (.int .i64 z0) := hc 0 z0 hz
  have hs := ownK_succ key zs 0 z0 hz
  have c : far key z0 < 65536 := (far_bd key z0).2
  rw [ownS, if_pos (show far key z0 < (ownK key (zs.take 0)).2 from c)] at hs
  have H1 := Lib.hid hs
  have HC := Lib.hid hc
  have HN := Lib.hid hne
  clear hs hz hc hne c
  go_enter Tryd.func11, Tryd.ntmps11
  go_wp2_with (go_at_call 13; refine (refplace_any _ _).mono ?_; rintro e w' ⟨rfl, rfl⟩)
  clear hcell
  go_loopw [6, 7] (fun o i wr => ∃ k : Nat, k ≤ zs.length ∧ i = .int .i64 k ∧ Below w.heap.size w wr ∧ o = .int .i64 (ownK key (zs.take (max k 1))).1) (fun _ i _ => zs.length - (intOf i).toNat)
  case atStart => exact ⟨0, Nat.zero_le _, rfl, Below.refl _ _, by show _ = Value.int .i64 (ownK key (zs.take (0 + 1))).1; rw [H1.out]⟩
  case round =>
    obtain ⟨k, hk, rfl, hb, rfl⟩ := hrel
    have HB := Lib.hid hb
    clear hb
    by_cases hlt : k < zs.length
    · obtain ⟨z, hz⟩ : ∃ z, zs[k]? = some z := ⟨_, List.getElem?_eq_getElem hlt⟩
      have hcell : wr.cell? ⟨b, off + k, none⟩ = some (.int .i64 z) := (HB.out.cell (p := ⟨b, off + k, none⟩) hbl).trans (HC.out k z hz)
      have hfar := ownK_far key (zs.take (max k 1)) (fun e => (List.take_eq_nil_iff.1 e).elim (by omega) HN.out)
      have hs := ownK_succ key zs k z hz
      by_cases c : far key z < (ownK key (zs.take (max k 1))).2
      · have hnew : (ownK key (zs.take (k + 1))).1 = z % 65536 := by
          by_cases hk0 : k = 0
          · subst hk0
            rw [hs, ownS, if_pos]
            exact (far_bd key z).2
          · rw [show max k 1 = k by omega] at c
            rw [hs, ownS, if_pos c]
        have HS := Lib.hid hnew
        clear hnew hs hz
        go_wp2_with (first | (go_at_call 15; refine (reffar_any _ _ _).mono ?_; rintro e w' ⟨rfl, rfl⟩) | (go_at_call 13; refine (refplace_any _ _).mono ?_; rintro e w' ⟨rfl, rfl⟩))
        go_roundw
        case rel => exact ⟨k + 1, by omega, by go_num, HB.out, by rw [show max (k + 1) 1 = k + 1 by omega, HS.out]⟩
        case measure => simp [intOf]; omega
      · have hnew : (ownK key (zs.take (k + 1))).1 = (ownK key (zs.take (max k 1))).1 := by
          by_cases hk0 : k = 0
          · subst hk0; rfl
          · rw [show max k 1 = k by omega] at c ⊢
            rw [hs, ownS, if_neg c]
        have HS := Lib.hid hnew
        clear hnew hs hz
        go_wp2_with (first | (go_at_call 15; refine (reffar_any _ _ _).mono ?_; rintro e w' ⟨rfl, rfl⟩) | (go_at_call 13; refine (refplace_any _ _).mono ?_; rintro e w' ⟨rfl, rfl⟩))
        go_roundw
        case rel => exact ⟨k + 1, by omega, by go_num, HB.out, by rw [show max (k + 1) 1 = k + 1 by omega, HS.out]⟩
        case measure => simp [intOf]; omega
    · obtain rfl : k = zs.length := by omega
      go_wp2
      go_ret2
      have e := HB.out
      rw [show max zs.length 1 = zs.length by omega, List.take_length]
      exact ⟨rfl, e⟩

theorem refown_any (v : Value) (zs : List Int) (hn : zs.length ≤ 1000) (key : Int) (w : World) (h : Ints w v zs) :
    Calls Tryd.prog 11 #[v, .int .i64 key] w fun e w' => e = .returned (.tuple #[.int .i64 (ownA key zs), .bool (decide (zs ≠ []))]) ∧ Below w.heap.size w w' := by
  rcases h.parts with ⟨a, cap, rfl, rfl⟩ | ⟨b, off, cap, rfl, hl, hc⟩
  · exact refown_nil a cap key w
  · by_cases hne : zs = []
    · subst hne; exact refown_nil _ cap key w
    · rw [decide_eq_true hne]
      exact refown_in b off cap zs hn hne key w hl hc

/-- Whether they rise, each further than the one ahead. -/
def risesF (a : Int) : Int → List Int → Bool
  | _, [] => true
  | was, z :: zs => decide (was < far a z) && risesF a (far a z) zs
end Go.Proofs.YtfbkhendpbhfcaaDoor
