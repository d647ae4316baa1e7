/-
  Frames opened: package frame's Open.
-/
import Derived.Test.YtclohcbhnlnddaaG
import Derived.Deep.QuietTactic
import Derived.BigQuiet
namespace Go.Proofs.Ytclohcbhnlnddaa
open Go.RowKit Go.Shelf

theorem or64 (x y : Int) (hx0 : 0 ≤ x) (hx : x ≤ 255) (hy0 : 0 ≤ y) (hy : y ≤ 255) : bits .or .i64 (x * 256) y = x * 256 + y := by
  have h1 : (BitVec.ofInt 64 (x * 256)).toNat = x.toNat <<< 8 := by rw [BitVec.toNat_ofInt, Nat.shiftLeft_eq]; omega
  have h2 : (BitVec.ofInt 64 y).toNat = y.toNat := by rw [BitVec.toNat_ofInt]; omega
  show IntKind.i64.wrap (((BitVec.ofInt 64 (x * 256) ||| BitVec.ofInt 64 y).toNat : Nat) : Int) = _
  rw [BitVec.toNat_or, h1, h2, ← Nat.shiftLeft_add_eq_or_of_lt (by omega), Nat.shiftLeft_eq, IntKind.wrap_i64]
  omega

theorem openE_short {bs : List (BitVec 8)} (h : bs.length < 8) : openE bs = 11 := by simp [openE, h]
theorem openE_no {bs : List (BitVec 8)} (h : ¬ bs.length < 8) (ho : opens bs = false) : openE bs = 12 := by simp [openE, h, ho]
theorem openE_yes {bs : List (BitVec 8)} (ho : opens bs = true) : openE bs = 0 := by
  have h := (opens_parts ho).1
  have h8 : ¬ bs.length < 8 := by omega
  simp [openE, h8, ho]
theorem opens_big {bs : List (BitVec 8)} (h : 120 < bs.length) : opens bs = false := by
  rw [Bool.eq_false_iff]; intro ho; have := (opens_parts ho).2.1; omega
theorem opens_b0 {bs : List (BitVec 8)} {x : BitVec 8} (h : bs[0]? = some x) (hx : x ≠ 71#8) : opens bs = false := by
  rw [Bool.eq_false_iff]; intro ho; have := (looks_of_opens ho).1; rw [h] at this; exact hx (Option.some.inj this)
theorem opens_b1 {bs : List (BitVec 8)} {x : BitVec 8} (h : bs[1]? = some x) (hx : x ≠ 1#8) : opens bs = false := by
  rw [Bool.eq_false_iff]; intro ho; have := (looks_of_opens ho).2.1; rw [h] at this; exact hx (Option.some.inj this)
theorem opens_size {bs : List (BitVec 8)} {x2 x3 : BitVec 8} (h2 : bs[2]? = some x2) (h3 : bs[3]? = some x3) (hx : bs.length ≠ x2.toNat * 256 + x3.toNat + 8) : opens bs = false := by
  rw [Bool.eq_false_iff]; intro ho
  obtain ⟨-, -, e2, e3, -⟩ := looks_of_opens ho
  have hp := opens_parts ho
  rw [h2] at e2; rw [h3] at e3
  have e2' := Option.some.inj e2
  have e3' := Option.some.inj e3
  subst e2'; subst e3'
  apply hx
  rw [BitVec.toNat_ofNat, BitVec.toNat_ofNat]
  omega

theorem below_drewN (w : World) (n : Nat) : Below w.heap.size w (w.drewN n) := ⟨rfl, rfl, rfl, Nat.le_refl _, fun _ _ => rfl⟩
theorem be_ints (s : BitVec 32) : ((s.extractLsb' 24 8).toNat : Int) = (s.toNat : Int) / 16777216 ∧ ((s.extractLsb' 16 8).toNat : Int) = (s.toNat : Int) / 65536 % 256 ∧ ((s.extractLsb' 8 8).toNat : Int) = (s.toNat : Int) / 256 % 256 ∧ ((s.extractLsb' 0 8).toNat : Int) = (s.toNat : Int) % 256 := by
  have h := be_cells s
  have e : ∀ k : Nat, (#[Value.int .u8 ((s.toNat : Int) / 16777216), .int .u8 ((s.toNat : Int) / 65536 % 256), .int .u8 ((s.toNat : Int) / 256 % 256), .int .u8 ((s.toNat : Int) % 256)])[k]? = (((be s).map encb).toArray)[k]? := fun k => by rw [h]
  have e0 := e 0
  have e1 := e 1
  have e2 := e 2
  have e3 := e 3
  simp [be, encb] at e0 e1 e2 e3
  exact ⟨e0.symm, e1.symm, e2.symm, by simp⟩
theorem opens_tail {bs : List (BitVec 8)} {m k : Nat} {x y : BitVec 8} (hm : bs.length = m + 8) (hx : bs[m + 4 + k]? = some x) (hy : (be (sumF (bs.take (m + 4))))[k]? = some y) (hne : x ≠ y) : opens bs = false := by
  rw [Bool.eq_false_iff]; intro ho
  have h := (looks_of_opens ho).2.2.2.2
  rw [show bs.length - 4 = m + 4 by omega] at h
  have := congrArg (fun l => l[k]?) h
  simp only [List.getElem?_drop] at this
  rw [hx, hy] at this
  exact hne (Option.some.inj this)
theorem Bytes.sub {w : World} {b off n cap : Nat} {l : List (BitVec 8)} (h : Bytes w (.slice (some ⟨b, off, none⟩) n cap) l) (k m : Nat) (hk : k + m ≤ l.length) (c : Nat) (hc : m ≤ c) :
    Bytes w (.slice (some ⟨b, off + k, none⟩) m c) ((l.drop k).take m) := by
  have hlen : ((l.drop k).take m).length = m := by rw [List.length_take, List.length_drop]; omega
  obtain ⟨a', cap', e, hc', -, h⟩ := h
  cases e
  refine ⟨_, c, by rw [hlen], by omega, (fun e => by cases e), ?_⟩
  rcases h with rfl | ⟨b', off', e, hl, hcell⟩
  · exact .inl (by simp)
  · cases e
    refine .inr ⟨b, off + k, rfl, hl, fun j u hj => ?_⟩
    have hjm : j < m := by
      rcases Nat.lt_or_ge j m with h | h
      · exact h
      · rw [List.getElem?_eq_none (by omega)] at hj; cases hj
    rw [List.getElem?_take_of_lt hjm, List.getElem?_drop] at hj
    have := hcell (k + j) u hj
    rwa [← Nat.add_assoc] at this

set_option maxRecDepth 100000 in
set_option maxHeartbeats 2000000 in
theorem open_short (a : Option Addr) (cap : Nat) (bs : List (BitVec 8)) (hl : bs.length < 8) (w : World) : Calls Try.prog 12 #[.slice a bs.length cap] w fun e w' =>
    ∃ v, e = .returned (.tuple #[v, .int .i64 (openE bs)]) ∧ (openE bs = 0 → Bytes w' v (payload bs)) ∧ (openE bs ≠ 0 → v = .slice none 0 0) ∧ Below w.heap.size w w' := by
  rw [openE_short hl]
  go_enter Try.func12, Try.ntmps12
  go_wp2
  refine wp_scope_labels (fun _ _ _ => False) (fun _ _ _ => 0) ?first (fun _ _ _ h => h.elim)
  go_wp2
  try rw [jumps_ret]
  go_ret2
  exact ⟨.slice none 0 0, rfl, (fun h => by cases h), (fun _ => rfl), Below.refl _ _⟩

set_option maxRecDepth 100000 in
set_option maxHeartbeats 8000000 in
theorem open_long (b off cap : Nat) (bs : List (BitVec 8)) (h8 : 8 ≤ bs.length) (w : World) (hv : Bytes w (.slice (some ⟨b, off, none⟩) bs.length cap) bs) : Calls Try.prog 12 #[.slice (some ⟨b, off, none⟩) bs.length cap] w fun e w' =>
    ∃ v, e = .returned (.tuple #[v, .int .i64 (openE bs)]) ∧ (openE bs = 0 → Bytes w' v (payload bs)) ∧ (openE bs ≠ 0 → v = .slice none 0 0) ∧ Below w.heap.size w w' := by
  obtain ⟨x0, hx0⟩ : ∃ x, bs[0]? = some x := ⟨_, List.getElem?_eq_getElem (by omega)⟩
  obtain ⟨x1, hx1⟩ : ∃ x, bs[1]? = some x := ⟨_, List.getElem?_eq_getElem (by omega)⟩
  obtain ⟨x2, hx2⟩ : ∃ x, bs[2]? = some x := ⟨_, List.getElem?_eq_getElem (by omega)⟩
  obtain ⟨x3, hx3⟩ : ∃ x, bs[3]? = some x := ⟨_, List.getElem?_eq_getElem (by omega)⟩
  have HC : Hid (∀ k x, bs[k]? = some x → w.cell? ⟨b, off + k, none⟩ = some (.int .u8 (x.toNat : Int))) := Lib.hid (fun k x hx => by
    obtain ⟨b', off', e, hc⟩ := hv.at hx
    cases e; exact hc)
  have HV := Lib.hid hv
  have HBL : Hid (b < w.heap.size) := Lib.hid (by
    obtain ⟨a', cap', e, -, -, h⟩ := hv
    cases e
    rcases h with rfl | ⟨b', off', e, hl, -⟩
    · simp at h8
    · cases e; exact hl)
  have HB := Lib.hid (Below.refl w.heap.size w)
  have HX0 := Lib.hid hx0
  have HX1 := Lib.hid hx1
  have HX2 := Lib.hid hx2
  have HX3 := Lib.hid hx3
  clear hx0 hx1 hx2 hx3 hv
  go_enter Try.func12, Try.ntmps12
  go_wp2
  refine wp_scope_labels (fun l a' w' => l = 0 ∧ openE bs = 12 ∧ Below w.heap.size w w' ∧ ∃ u0 u1 u2 u3 u4 u5 u6 u7 u8 u9 u10 u11 u12 u13 u14 u15 u16 u17 u18 u19 u20 u21 u22 u23 u24 u25 u26 u27 u28 u29 u30 u31 u32 u33 u34 u35 u36 u37 u38 u39 u40 u41 u42 u43 u44 u45 u46 u47 u48 u49 u50 u51 u52 u53 u54 u55 u56 u57 u58 u59 u60 u61 u62 u63 u64 u65 u66 u67 : Value, a' = { tmps := #[u0, u1, u2, u3, u4, u5, u6, u7, u8, u9, u10, u11, u12, u13, u14, u15, u16, u17, u18, u19, u20, u21, u22, u23, u24, u25, u26, u27, u28, u29, u30, u31, u32, u33, u34, u35, u36, u37, u38, u39, u40, u41, u42, u43, u44, u45, u46, u47, u48, u49, u50, u51, u52, u53, u54, u55, u56, u57, u58, u59, u60, u61, u62, u63, u64, u65, u66, u67], defers := [] }) (fun _ _ _ => 0) ?first ?pass
  case pass =>
    rintro l a' w' ⟨rfl, hE, hB, u0, u1, u2, u3, u4, u5, u6, u7, u8, u9, u10, u11, u12, u13, u14, u15, u16, u17, u18, u19, u20, u21, u22, u23, u24, u25, u26, u27, u28, u29, u30, u31, u32, u33, u34, u35, u36, u37, u38, u39, u40, u41, u42, u43, u44, u45, u46, u47, u48, u49, u50, u51, u52, u53, u54, u55, u56, u57, u58, u59, u60, u61, u62, u63, u64, u65, u66, u67, rfl⟩
    refine ⟨_, rfl, ?_⟩
    go_wp2
    try rw [jumps_ret]
    go_ret2
    exact ⟨.slice none 0 0, by rw [hE]; rfl, (fun h => by rw [hE] at h; cases h), (fun _ => rfl), hB⟩
  case first =>
    by_cases hbig : 120 < bs.length
    · have HE := Lib.hid (openE_no (bs := bs) (by omega) (opens_big hbig))
      go_wp2
      go_step3
      exact ⟨rfl, HE.out, HB.out, _, _, _, _, _, _, _, _, _, _, _, _, _, _, _, _, _, _, _, _, _, _, _, _, _, _, _, _, _, _, _, _, _, _, _, _, _, _, _, _, _, _, _, _, _, _, _, _, _, _, _, _, _, _, _, _, _, _, _, _, _, _, _, _, _, _, _, _, rfl⟩
    by_cases h0 : x0 = 71#8
    case neg =>
      have HE := Lib.hid (openE_no (bs := bs) (by omega) (opens_b0 HX0.out h0))
      have hn : ((x0.toNat : Int) != 71) = true := by
        rw [bne_iff_ne]; intro e; exact h0 (BitVec.eq_of_toNat_eq (by show x0.toNat = 71; omega))
      have hb0 : (0 : Int) ≤ (x0.toNat : Int) := by omega
      have hb1 : (x0.toNat : Int) ≤ 255 := by have := x0.isLt; omega
      have hc := HC.out 0 x0 HX0.out
      rw [Nat.add_zero] at hc
      clear h0
      go_wp2
      go_step3
      exact ⟨rfl, HE.out, HB.out, _, _, _, _, _, _, _, _, _, _, _, _, _, _, _, _, _, _, _, _, _, _, _, _, _, _, _, _, _, _, _, _, _, _, _, _, _, _, _, _, _, _, _, _, _, _, _, _, _, _, _, _, _, _, _, _, _, _, _, _, _, _, _, _, _, _, _, _, rfl⟩
    subst h0
    have hc0 : w.cell? ⟨b, off, none⟩ = some (.int .u8 71) := HC.out 0 _ HX0.out
    by_cases h1 : x1 = 1#8
    case neg =>
      have HE := Lib.hid (openE_no (bs := bs) (by omega) (opens_b1 HX1.out h1))
      have hn : ((x1.toNat : Int) != 1) = true := by
        rw [bne_iff_ne]; intro e; exact h1 (BitVec.eq_of_toNat_eq (by show x1.toNat = 1; omega))
      have hb0 : (0 : Int) ≤ (x1.toNat : Int) := by omega
      have hb1 : (x1.toNat : Int) ≤ 255 := by have := x1.isLt; omega
      have hc := HC.out 1 x1 HX1.out
      clear h1
      go_wp2
      go_step3
      exact ⟨rfl, HE.out, HB.out, _, _, _, _, _, _, _, _, _, _, _, _, _, _, _, _, _, _, _, _, _, _, _, _, _, _, _, _, _, _, _, _, _, _, _, _, _, _, _, _, _, _, _, _, _, _, _, _, _, _, _, _, _, _, _, _, _, _, _, _, _, _, _, _, _, _, _, _, rfl⟩
    subst h1
    have hc1 : w.cell? ⟨b, off + 1, none⟩ = some (.int .u8 1) := HC.out 1 _ HX1.out
    by_cases hn : bs.length = x2.toNat * 256 + x3.toNat + 8
    case neg =>
      have HE := Lib.hid (openE_no (bs := bs) (by omega) (opens_size HX2.out HX3.out hn))
      have hb0 : (0 : Int) ≤ (x2.toNat : Int) := by omega
      have hb1 : (x2.toNat : Int) ≤ 255 := by have := x2.isLt; omega
      have hb2 : (0 : Int) ≤ (x3.toNat : Int) := by omega
      have hb3 : (x3.toNat : Int) ≤ 255 := by have := x3.isLt; omega
      have hor := or64 _ _ hb0 hb1 hb2 hb3
      have hs : ((bs.length : Int) != sizeF ((x2.toNat : Int) * 256 + (x3.toNat : Int))) = true := by
        rw [bne_iff_ne]; unfold sizeF; split <;> omega
      have hc2 := HC.out 2 _ HX2.out
      have hc3 := HC.out 3 _ HX3.out
      clear hn
      generalize (x2.toNat : Int) = y2 at *
      generalize (x3.toNat : Int) = y3 at *
      go_wp2
      go_quiet (fail)
      have HB := Lib.hid (below_drewN w nq)
      go_wp2_with (go_at_call 19; refine (size_any _ _).mono ?_; rintro e w' ⟨rfl, rfl⟩)
      go_step3
      exact ⟨rfl, HE.out, HB.out, _, _, _, _, _, _, _, _, _, _, _, _, _, _, _, _, _, _, _, _, _, _, _, _, _, _, _, _, _, _, _, _, _, _, _, _, _, _, _, _, _, _, _, _, _, _, _, _, _, _, _, _, _, _, _, _, _, _, _, _, _, _, _, _, _, _, _, _, rfl⟩
    obtain ⟨m, hm⟩ : ∃ m, bs.length = m + 8 := ⟨bs.length - 8, by omega⟩
    have hb0 : (0 : Int) ≤ (x2.toNat : Int) := by omega
    have hb1 : (x2.toNat : Int) ≤ 255 := by have := x2.isLt; omega
    have hb2 : (0 : Int) ≤ (x3.toNat : Int) := by omega
    have hb3 : (x3.toNat : Int) ≤ 255 := by have := x3.isLt; omega
    have hor := or64 _ _ hb0 hb1 hb2 hb3
    rw [show (x2.toNat : Int) * 256 + (x3.toNat : Int) = (m : Int) by omega] at hor
    have hs : ((bs.length : Int) != sizeF (m : Int)) = false := by
      have : sizeF (m : Int) = (bs.length : Int) := by unfold sizeF; rw [if_neg (by omega)]; omega
      rw [this]; simp
    have hc2 := HC.out 2 _ HX2.out
    have hc3 := HC.out 3 _ HX3.out
    have HN := Lib.hid hn
    clear hn
    generalize hy2 : (x2.toNat : Int) = y2 at *
    generalize hy3 : (x3.toNat : Int) = y3 at *
    have HY2 := Lib.hid hy2
    have HY3 := Lib.hid hy3
    clear hy2 hy3
    go_wp2
    go_quiet (fail)
    have HBq := Lib.hid (below_drewN w nq)
    have HS := Lib.hid ((HV.out.sub 0 (4 + m) (by omega) cap (by have := HV.out.shape; obtain ⟨_, _, e, hc⟩ := this; cases e; omega)).below HBq.out)
    simp only [Nat.add_zero, List.drop_zero] at HS
    have hcap : 4 + m ≤ cap := by have := HV.out.shape; obtain ⟨_, _, e, hc⟩ := this; cases e; omega
    go_wp2_with (first
      | (go_at_call 19; refine (size_any _ _).mono ?_; rintro e w' ⟨rfl, rfl⟩)
      | (go_at_call 16; refine (sum_any _ _ (by rw [List.length_take]; omega) _ HS.out).mono ?_; rintro e w3 ⟨rfl, hb3'⟩; have HB3 := Lib.hid (HBq.out.trans (hb3'.mono HBq.out.size)); clear hb3'))
    obtain ⟨S, hSE⟩ : ∃ S, S = sumF (bs.take (4 + m)) := ⟨_, rfl⟩
    have HBE := Lib.hid (be_ints S)
    rw [← hSE]
    have HSE := Lib.hid hSE
    clear hSE
    go_loopw [45] (fun i wr => ∃ k : Nat, k ≤ 4 ∧ i = .int .i64 k ∧ Below w.heap.size w wr ∧ ∀ j, j < k → bs[m + 4 + j]? = (be S)[j]?) (fun i _ => 4 - (intOf i).toNat)
    case atStart => exact ⟨0, Nat.zero_le _, rfl, HB3.out, fun j hj => absurd hj (Nat.not_lt_zero _)⟩
    case round =>
      obtain ⟨k, hk, rfl, hbr, hall⟩ := hrel
      by_cases hlt : k < 4
      · obtain ⟨x, hx⟩ : ∃ x, bs[m + 4 + k]? = some x := ⟨_, List.getElem?_eq_getElem (by omega)⟩
        have hcell : wr.cell? ⟨b, off + (m + 4 + k), none⟩ = some (.int .u8 (x.toNat : Int)) := (hbr.cell (p := ⟨b, off + (m + 4 + k), none⟩) HBL.out).trans (HC.out _ _ hx)
        have HBR := Lib.hid hbr
        have HALL := Lib.hid hall
        have hS1 := S.isLt
        have hS0 : (0 : Int) ≤ (S.toNat : Int) := by omega
        have hS2 : (S.toNat : Int) < 4294967296 := by omega
        have hxi0 : (0 : Int) ≤ (x.toNat : Int) := by omega
        have hxi1 : (x.toNat : Int) ≤ 255 := by have := x.isLt; omega
        clear hS1
        obtain rfl | rfl | rfl | rfl : k = 0 ∨ k = 1 ∨ k = 2 ∨ k = 3 := by omega
        · rw [show off + (m + 4 + 0) = off + (4 + m) by omega] at hcell
          by_cases heq : x = S.extractLsb' 24 8
          · have hne : ((x.toNat : Int) != (S.toNat : Int) / 16777216) = false := by rw [heq, HBE.out.1]; simp
            have hxk : bs[m + 4 + 0]? = (be S)[0]? := by rw [hx, heq]; rfl
            have HXK := Lib.hid hxk
            clear heq hxk hx hall
            generalize (x.toNat : Int) = y at *
            generalize (S.toNat : Int) = Si at *
            go_wp2
            go_quiet (fail)
            go_wp2
            go_roundw
            case rel => exact ⟨1, by omega, by go_num, HBR.out.trans ((below_drewN wr nq).mono HBR.out.size), fun j hj => by
              by_cases hj2 : j = 0
              · subst hj2; exact HXK.out
              · exact HALL.out j (by omega)⟩
            case measure => simp [intOf]
          · have hne : ((x.toNat : Int) != (S.toNat : Int) / 16777216) = true := by
              rw [bne_iff_ne, ← HBE.out.1]; intro e; exact heq (BitVec.eq_of_toNat_eq (by omega))
            have HE := Lib.hid (openE_no (bs := bs) (by omega) (opens_tail (k := 0) hm hx (by rw [Nat.add_comm m 4, ← HSE.out]; rfl) heq))
            clear heq hx hall
            generalize (x.toNat : Int) = y at *
            generalize (S.toNat : Int) = Si at *
            go_wp2
            go_quiet (fail)
            have HB := Lib.hid (HBR.out.trans ((below_drewN wr nq).mono HBR.out.size))
            go_wp2
            go_step3
            exact ⟨rfl, HE.out, HB.out, _, _, _, _, _, _, _, _, _, _, _, _, _, _, _, _, _, _, _, _, _, _, _, _, _, _, _, _, _, _, _, _, _, _, _, _, _, _, _, _, _, _, _, _, _, _, _, _, _, _, _, _, _, _, _, _, _, _, _, _, _, _, _, _, _, _, _, _, rfl⟩
        · rw [show off + (m + 4 + 1) = off + (4 + m + 1) by omega] at hcell
          by_cases heq : x = S.extractLsb' 16 8
          · have hne : ((x.toNat : Int) != (S.toNat : Int) / 65536 % 256) = false := by rw [heq, HBE.out.2.1]; simp
            have hxk : bs[m + 4 + 1]? = (be S)[1]? := by rw [hx, heq]; rfl
            have HXK := Lib.hid hxk
            clear heq hxk hx hall
            generalize (x.toNat : Int) = y at *
            generalize (S.toNat : Int) = Si at *
            go_wp2
            go_quiet (fail)
            go_wp2
            go_roundw
            case rel => exact ⟨2, by omega, by go_num, HBR.out.trans ((below_drewN wr nq).mono HBR.out.size), fun j hj => by
              by_cases hj2 : j = 1
              · subst hj2; exact HXK.out
              · exact HALL.out j (by omega)⟩
            case measure => simp [intOf]
          · have hne : ((x.toNat : Int) != (S.toNat : Int) / 65536 % 256) = true := by
              rw [bne_iff_ne, ← HBE.out.2.1]; intro e; exact heq (BitVec.eq_of_toNat_eq (by omega))
            have HE := Lib.hid (openE_no (bs := bs) (by omega) (opens_tail (k := 1) hm hx (by rw [Nat.add_comm m 4, ← HSE.out]; rfl) heq))
            clear heq hx hall
            generalize (x.toNat : Int) = y at *
            generalize (S.toNat : Int) = Si at *
            go_wp2
            go_quiet (fail)
            have HB := Lib.hid (HBR.out.trans ((below_drewN wr nq).mono HBR.out.size))
            go_wp2
            go_step3
            exact ⟨rfl, HE.out, HB.out, _, _, _, _, _, _, _, _, _, _, _, _, _, _, _, _, _, _, _, _, _, _, _, _, _, _, _, _, _, _, _, _, _, _, _, _, _, _, _, _, _, _, _, _, _, _, _, _, _, _, _, _, _, _, _, _, _, _, _, _, _, _, _, _, _, _, _, _, rfl⟩
        · rw [show off + (m + 4 + 2) = off + (4 + m + 2) by omega] at hcell
          by_cases heq : x = S.extractLsb' 8 8
          · have hne : ((x.toNat : Int) != (S.toNat : Int) / 256 % 256) = false := by rw [heq, HBE.out.2.2.1]; simp
            have hxk : bs[m + 4 + 2]? = (be S)[2]? := by rw [hx, heq]; rfl
            have HXK := Lib.hid hxk
            clear heq hxk hx hall
            generalize (x.toNat : Int) = y at *
            generalize (S.toNat : Int) = Si at *
            go_wp2
            go_quiet (fail)
            go_wp2
            go_roundw
            case rel => exact ⟨3, by omega, by go_num, HBR.out.trans ((below_drewN wr nq).mono HBR.out.size), fun j hj => by
              by_cases hj2 : j = 2
              · subst hj2; exact HXK.out
              · exact HALL.out j (by omega)⟩
            case measure => simp [intOf]
          · have hne : ((x.toNat : Int) != (S.toNat : Int) / 256 % 256) = true := by
              rw [bne_iff_ne, ← HBE.out.2.2.1]; intro e; exact heq (BitVec.eq_of_toNat_eq (by omega))
            have HE := Lib.hid (openE_no (bs := bs) (by omega) (opens_tail (k := 2) hm hx (by rw [Nat.add_comm m 4, ← HSE.out]; rfl) heq))
            clear heq hx hall
            generalize (x.toNat : Int) = y at *
            generalize (S.toNat : Int) = Si at *
            go_wp2
            go_quiet (fail)
            have HB := Lib.hid (HBR.out.trans ((below_drewN wr nq).mono HBR.out.size))
            go_wp2
            go_step3
            exact ⟨rfl, HE.out, HB.out, _, _, _, _, _, _, _, _, _, _, _, _, _, _, _, _, _, _, _, _, _, _, _, _, _, _, _, _, _, _, _, _, _, _, _, _, _, _, _, _, _, _, _, _, _, _, _, _, _, _, _, _, _, _, _, _, _, _, _, _, _, _, _, _, _, _, _, _, rfl⟩
        · rw [show off + (m + 4 + 3) = off + (4 + m + 3) by omega] at hcell
          by_cases heq : x = S.extractLsb' 0 8
          · have hne : ((x.toNat : Int) != (S.toNat : Int) % 256) = false := by rw [heq, HBE.out.2.2.2]; simp
            have hxk : bs[m + 4 + 3]? = (be S)[3]? := by rw [hx, heq]; rfl
            have HXK := Lib.hid hxk
            clear heq hxk hx hall
            generalize (x.toNat : Int) = y at *
            generalize (S.toNat : Int) = Si at *
            go_wp2
            go_quiet (fail)
            go_wp2
            go_roundw
            case rel => exact ⟨4, by omega, by go_num, HBR.out.trans ((below_drewN wr nq).mono HBR.out.size), fun j hj => by
              by_cases hj2 : j = 3
              · subst hj2; exact HXK.out
              · exact HALL.out j (by omega)⟩
            case measure => simp [intOf]
          · have hne : ((x.toNat : Int) != (S.toNat : Int) % 256) = true := by
              rw [bne_iff_ne, ← HBE.out.2.2.2]; intro e; exact heq (BitVec.eq_of_toNat_eq (by omega))
            have HE := Lib.hid (openE_no (bs := bs) (by omega) (opens_tail (k := 3) hm hx (by rw [Nat.add_comm m 4, ← HSE.out]; rfl) heq))
            clear heq hx hall
            generalize (x.toNat : Int) = y at *
            generalize (S.toNat : Int) = Si at *
            go_wp2
            go_quiet (fail)
            have HB := Lib.hid (HBR.out.trans ((below_drewN wr nq).mono HBR.out.size))
            go_wp2
            go_step3
            exact ⟨rfl, HE.out, HB.out, _, _, _, _, _, _, _, _, _, _, _, _, _, _, _, _, _, _, _, _, _, _, _, _, _, _, _, _, _, _, _, _, _, _, _, _, _, _, _, _, _, _, _, _, _, _, _, _, _, _, _, _, _, _, _, _, _, _, _, _, _, _, _, _, _, _, _, _, rfl⟩
      · obtain rfl : k = 4 := by omega
        have hops : opens bs = true := opens_of_looks (by omega) (by omega) x2 x3 HX0.out HX1.out HX2.out HX3.out HN.out (by
          rw [show bs.length - 4 = m + 4 by omega, Nat.add_comm m 4, ← HSE.out]
          refine List.ext_getElem? fun j => ?_
          rw [List.getElem?_drop, Nat.add_comm 4 m]
          by_cases hj : j < 4
          · exact hall j hj
          · rw [List.getElem?_eq_none (by omega), List.getElem?_eq_none (by rw [be_length]; omega)])
        have HOE := Lib.hid (openE_yes hops)
        have HBR := Lib.hid hbr
        have hcap2 : m + 8 ≤ cap := by have := HV.out.shape; obtain ⟨_, _, e, hc⟩ := this; cases e; omega
        have HSL := Lib.hid ((HV.out.sub 4 m (by omega) (cap - 4) (by omega)).below hbr)
        have HSM : Hid (Bytes wr (.slice (some ⟨b, off + 4, none⟩) (4 + m - 4) (cap - 4)) ((bs.drop 4).take m)) := Lib.hid (by rw [Nat.add_sub_cancel_left]; exact HSL.out)
        clear hops hbr hall
        go_wp2_with (first
          | (at_builtin; refine wpList_append_bytes rfl _ _ rfl rfl rfl (OwnB.nil wr) _ ((bs.drop 4).take m) rfl HSM.out (by have := List.length_take_le m (bs.drop 4); simp only [List.length_nil]; omega) ?_; intro v5 w5 hO5; have HO5 := Lib.hid hO5; clear hO5))
        try rw [jumps_ret]
        go_ret2
        refine ⟨v5, by rw [HOE.out]; rfl, fun _ => ?_, fun h => absurd HOE.out h, HBR.out.trans (HO5.out.below.mono HBR.out.size)⟩
        have := HO5.out.bytes
        rw [List.nil_append] at this
        unfold payload
        rw [show bs.length - 8 = m by omega]
        exact this
end Go.Proofs.Ytclohcbhnlnddaa
