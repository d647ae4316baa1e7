/-
  The bits of bytes, one behind the other, as package frame hands them on.
-/
import Derived.Test.YtclohcbhnlnddaaC
import Derived.Test.YtclohcbhnlnddaaLoops
import Derived.Test.YtclohcbhnlnddaaScopes
import Derived.RangeFuncCalls
import Derived.RangeFuncBox
import Derived.Shelf.Abstract
import Derived.Shelf.RegionOpen
import Derived.OwnWalkIn
import Derived.TacticsInMore
import Derived.LoopNIn
import Derived.LoopIn
namespace Go.Proofs.Ytclohcbhnlnddaa
open Go.RowKit Go.Shelf
attribute [local go_sem] Oper.semAt_some

/-- Where no depth is asked all depths are one. -/
theorem room_of_none {F : Fence} (hd : F.depth = none) (k : Nat) : F.room k := fun d h => by rw [hd] at h; cases h
theorem RoundIn.anyDepth {F : Fence} (hd : F.depth = none) {m m' : Nat} {P : Program} {l : Nat} {f : FuncId} {tmps : Array Value} {assign body : Code} {w : World} {R : Ending → World → Prop}
    (h : RoundIn F m P l f tmps assign body w R) : RoundIn F m' P l f tmps assign body w R := ⟨h.1, fun c cs _ => h.2 c cs (room_of_none hd _)⟩
theorem YieldAt.anyDepth {F : Fence} (hd : F.depth = none) {m : Nat} (m' : Nat) {P : Program} {l : Nat} {args : Array Value} {W : World} {R : Ending → World → Prop} (h : YieldAt F m P l args W R) : YieldAt F m' P l args W R := by
  obtain ⟨fn, tmps, assign, body, hy, hR⟩ := h
  exact ⟨fn, tmps, assign, body, hy, RoundIn.anyDepth hd hR⟩

/-- A byte as a value; a slice that holds bytes. -/
def encb (b : BitVec 8) : Value := .int .u8 (b.toNat : Int)
def Bytes (w : World) (v : Value) (l : List (BitVec 8)) : Prop :=
  ∃ a cap, v = .slice a l.length cap ∧ l.length ≤ cap ∧ (a = none → cap = 0) ∧ (l = [] ∨ ∃ b off, a = some ⟨b, off, none⟩ ∧ b < w.heap.size ∧ ∀ j u, l[j]? = some u → w.cell? ⟨b, off + j, none⟩ = some (encb u))
/-- The block that a slice lies in. -/
def blk (v : Value) (b : Nat) : Prop := ∃ off n c, v = .slice (some ⟨b, off, none⟩) n c ∧ 0 < n
theorem Bytes.below {w w' : World} {v : Value} {l : List (BitVec 8)} (h : Bytes w v l) (hb : Below w.heap.size w w') : Bytes w' v l := by
  obtain ⟨a, cap, hv, hc, hn, h⟩ := h
  refine ⟨a, cap, hv, hc, hn, ?_⟩
  rcases h with h | ⟨b, off, ha, hl, hcell⟩
  · exact .inl h
  · exact .inr ⟨b, off, ha, Nat.lt_of_lt_of_le hl hb.size, fun j u hj => (hb.cell (p := ⟨b, off + j, none⟩) hl).trans (hcell j u hj)⟩
theorem Bytes.same {w w' : World} {v : Value} {l : List (BitVec 8)} (h : Bytes w v l) (hs : ∀ b, blk v b → w'.heap[b]? = w.heap[b]?) : Bytes w' v l := by
  obtain ⟨a, cap, hv, hc, hn, h⟩ := h
  refine ⟨a, cap, hv, hc, hn, ?_⟩
  rcases Nat.eq_zero_or_pos l.length with h0 | hpos
  · exact .inl (List.length_eq_zero_iff.1 h0)
  rcases h with h | ⟨b, off, ha, hl, hcell⟩
  · exact .inl h
  · have hb := hs b ⟨off, _, _, by rw [hv, ha], hpos⟩
    refine .inr ⟨b, off, ha, ?_, fun j u hj => (World.cell?_of_block (a := ⟨b, off + j, none⟩) hb).trans (hcell j u hj)⟩
    rw [Array.getElem?_eq_getElem hl] at hb
    exact (Array.getElem?_eq_some_iff.1 hb).1
theorem Bytes.shape {w : World} {v : Value} {l : List (BitVec 8)} (h : Bytes w v l) : ∃ a cap, v = .slice a l.length cap ∧ l.length ≤ cap := by
  obtain ⟨a, cap, hv, hc, -⟩ := h
  exact ⟨a, cap, hv, hc⟩
theorem Bytes.at {w : World} {a : Option Addr} {cap : Nat} {l : List (BitVec 8)} (h : Bytes w (.slice a l.length cap) l) {k : Nat} {x : BitVec 8} (hx : l[k]? = some x) :
    ∃ b off, a = some ⟨b, off, none⟩ ∧ w.cell? ⟨b, off + k, none⟩ = some (.int .u8 (x.toNat : Int)) := by
  obtain ⟨a', cap', e, -, -, h⟩ := h
  cases e
  rcases h with h | ⟨b, off, e, hl, hc⟩
  · subst h; simp at hx
  · exact ⟨b, off, e, hc k x hx⟩

theorem bit_and (b : BitVec 8) (k : Nat) : (bits .and .u8 ((b.toNat : Int) / 2 ^ k) 1 == 1) = b.getLsbD k := by
  have e : ((b.toNat : Int) / 2 ^ k) = ((b.toNat / 2 ^ k : Nat) : Int) := by simp
  have hlt : b.toNat / 2 ^ k < 256 := Nat.lt_of_le_of_lt (Nat.div_le_self _ _) b.isLt
  have h2 : (BitVec.ofInt 8 1).toNat = 2 ^ 1 - 1 := by decide
  rw [e]
  generalize hq : b.toNat / 2 ^ k = q at hlt
  have h1 : (BitVec.ofInt 8 (q : Int)).toNat = q := by rw [BitVec.toNat_ofInt]; omega
  have h3 : bits .and .u8 (q : Int) 1 = ((q % 2 : Nat) : Int) := by
    show IntKind.u8.wrap (((BitVec.ofInt 8 (q : Int) &&& BitVec.ofInt 8 1).toNat : Nat) : Int) = _
    rw [BitVec.toNat_and, h1, h2, Nat.and_two_pow_sub_one_eq_mod, wrap_u8]
    omega
  rw [h3, BitVec.getLsbD, Nat.testBit_eq_decide_div_mod_eq, hq, Bool.eq_iff_iff]
  simp only [beq_iff_eq, decide_eq_true_eq]
  omega

/-- What a round of the loop leaves behind. -/
def Went (S : Nat → Prop) (J Jx : Nat → World → Prop) (k : Nat) (W : World) (e : Ending) (W' : World) : Prop :=
  (e = .returned (.bool true) ∧ J (k + 1) W' ∧ ∀ b, S b → W'.heap[b]? = W.heap[b]?) ∨ (e = .returned (.bool false) ∧ Jx k W')

set_option maxRecDepth 100000 in
set_option maxHeartbeats 2000000 in
theorem steps_in (F : Fence) (hd : F.depth = none) (h23 : F.fn 23) (hro : F.round = none) (l N k0 : Nat) (encs : Nat → Array Value) (J Jx : Nat → World → Prop) (S : Nat → Prop)
    (hY : ∀ m k W, k < N → J k W → YieldAt F m Try.prog l (encs k) W (Went S J Jx k W)) (b : BitVec 8) (hN : k0 + 8 ≤ N) (he : ∀ k, k < 8 → encs (k0 + k) = #[.bool (b.getLsbD (7 - k))]) (n : Nat) (W : World) (h0 : J k0 W) :
    CallsIn F n Try.prog 23 #[.int .u8 (b.toNat : Int), .func (.yield l) #[] #[]] W fun e W' =>
      (e = .returned (.bool true) ∧ J (k0 + 8) W' ∧ ∀ b, S b → W'.heap[b]? = W.heap[b]?) ∨ (e = .returned (.bool false) ∧ ∃ k, k < N ∧ Jx k W') := by
  have hdd : ∀ k : Nat, (F.depth.isSome = true → 1 ≤ k) := fun k h => by rw [hd] at h; cases h
  have HY : Hid (∀ k, k ≤ 7 → ∀ W, J (k0 + (7 - k)) W → YieldAt F (n - 1) Try.prog l #[.bool (bits .and .u8 ((b.toNat : Int) / 2 ^ k) 1 == 1)] W (Went S J Jx (k0 + (7 - k)) W)) := Lib.hid (fun k hk W hJ => by
    have := hY (n - 1) (k0 + (7 - k)) W (by omega) hJ
    rw [he (7 - k) (by omega), show 7 - (7 - k) = k by omega, ← bit_and] at this
    exact this)
  have hx0 : (0 : Int) ≤ (b.toNat : Int) := by omega
  have hx1 : (b.toNat : Int) ≤ 255 := by have := b.isLt; omega
  generalize (b.toNat : Int) = x at *
  clear hY he
  refine callsIn_of_wp Try.func23 rfl h23 ?_ hro
  simp only [Try.ntmps23, List.size_toArray, List.length_cons, List.length_nil, Nat.reduceAdd, Nat.reduceSub, Array.replicate_succ, Array.replicate_zero, List.push_toArray, List.append_toArray, List.nil_append, List.cons_append]
  gi_wp2
  refine wpIn_scope_labels (fun l' a' w' => ∃ (k : Nat) (u2 u3 u6 u7 u8 u9 u10 u11 u12 u13 u14 u15 u16 u17 : Value), l' = 0 ∧ k ≤ 6 ∧ a' = { tmps := #[.int .u8 x, .func (.yield l) #[] #[], u2, u3, .bool false, .int .i64 k, u6, u7, u8, u9, u10, u11, u12, u13, u14, u15, u16, u17], defers := [] } ∧
    J (k0 + (7 - k)) w' ∧ ∀ b, S b → w'.heap[b]? = W.heap[b]?) (fun _ a' _ => (intOf (a'.tmps[5]?.getD undef)).toNat) ?first ?pass
  case first =>
    obtain ⟨fn, tmps, assign, body, hy, hR⟩ := HY.out 7 (by omega) W h0
    simp only [Int.reducePow] at hy
    clear HY
    gi_wp2
    refine wpIn_label ?_
    gi_wp2_with (((try refine ⟨hdd _, ?_⟩); refine hR.mono ?_; clear hR; rintro e W3 (⟨rfl, hJ3, hS3⟩ | ⟨rfl, hJx3⟩)))
    · refine wpIn_goto ?_
      refine ⟨6, _, _, _, _, _, _, _, _, _, _, _, _, _, _, rfl, by omega, rfl, hJ3, hS3⟩
    · try rw [jumps_ret]
      go_ret
      exact .inr ⟨rfl, _, by omega, hJx3⟩
  case pass =>
    rintro _ _ w' ⟨k, u2, u3, u6, u7, u8, u9, u10, u11, u12, u13, u14, u15, u16, u17, rfl, hk, rfl, hJ, hS⟩
    refine ⟨_, rfl, ?_⟩
    obtain ⟨fn, tmps, assign, body, hy, hR⟩ := HY.out k (by omega) w' hJ
    clear HY
    by_cases hk0 : k = 0
    · subst hk0
      simp only [Int.pow_zero, Int.ediv_one] at hy
      gi_wp2_with (((try refine ⟨hdd _, ?_⟩); refine hR.mono ?_; clear hR; rintro e W3 (⟨rfl, hJ3, hS3⟩ | ⟨rfl, hJx3⟩)))
      · try rw [jumps_ret]
        go_ret
        exact .inl ⟨rfl, hJ3, fun b hb => (hS3 b hb).trans (hS b hb)⟩
      · try rw [jumps_ret]
        go_ret
        exact .inr ⟨rfl, _, by omega, hJx3⟩
    · obtain ⟨m, rfl⟩ : ∃ m, k = m + 1 := ⟨k - 1, by omega⟩
      gi_wp2_with (((try refine ⟨hdd _, ?_⟩); refine hR.mono ?_; clear hR; rintro e W3 (⟨rfl, hJ3, hS3⟩ | ⟨rfl, hJx3⟩)))
      · refine wpIn_goto ?_
        refine ⟨⟨m, _, _, _, _, _, _, _, _, _, _, _, _, _, _, rfl, by omega, rfl, ?_, fun b hb => (hS3 b hb).trans (hS b hb)⟩, ?_⟩
        · rw [show k0 + (7 - m) = k0 + (7 - (m + 1)) + 1 by omega]; exact hJ3
        · simp [intOf]
      · try rw [jumps_ret]
        go_ret
        exact .inr ⟨rfl, _, by omega, hJx3⟩

/-- The k-th bit of bytes and of what stands behind them; the state behind k bits. -/
def bitAt (bs : List (BitVec 8)) (k : Nat) : Bool := ((bitsOf bs ++ zeros 32)[k]?).getD false
def encN (bs : List (BitVec 8)) (k : Nat) : Array Value := #[.bool (bitAt bs k)]
def stF (bs : List (BitVec 8)) : Nat → BitVec 32
  | 0 => ones
  | k + 1 => stepB (stF bs k) (bitAt bs k)
theorem bitAt_byte {bs : List (BitVec 8)} {j : Nat} {b : BitVec 8} (hb : bs[j]? = some b) (k : Nat) (hk : k < 8) : bitAt bs (8 * j + k) = b.getLsbD (7 - k) := by
  have hj : j < bs.length := by
    rcases Nat.lt_or_ge j bs.length with h | h
    · exact h
    · rw [List.getElem?_eq_none h] at hb; cases hb
  unfold bitAt
  rw [List.getElem?_append_left (by rw [bitsOf_length]; omega), bitsOf_get, show (8 * j + k) / 8 = j by omega, show (8 * j + k) % 8 = k by omega, hb]
  rfl
theorem bitAt_tail (bs : List (BitVec 8)) (k : Nat) : bitAt bs (8 * bs.length + k) = false := by
  unfold bitAt
  rw [List.getElem?_append_right (by rw [bitsOf_length]; omega), bitsOf_length, Nat.add_sub_cancel_left, zeros, List.getElem?_replicate]
  split <;> rfl
theorem stF_take (bs : List (BitVec 8)) (k : Nat) (hk : k ≤ 8 * bs.length + 32) : stF bs k = runB ones ((bitsOf bs ++ zeros 32).take k) := by
  induction k with
  | zero => rfl
  | succ k ih =>
    have hl : k < (bitsOf bs ++ zeros 32).length := by rw [List.length_append, bitsOf_length]; simp [zeros]; omega
    rw [stF, ih (by omega), List.take_add_one, runB_append, bitAt, List.getElem?_eq_getElem hl]
    rfl
theorem stF_end (bs : List (BitVec 8)) : stF bs (8 * bs.length + 32) = sumF bs := by
  rw [stF_take bs _ (Nat.le_refl _), List.take_of_length_le (by rw [List.length_append, bitsOf_length]; simp [zeros])]
  rfl

theorem bits_any (a : Option Addr) (n c : Nat) (w : World) : Calls Try.prog 21 #[.slice a n c] w fun e w' =>
    e = .returned (.func (.func 22) #[] #[.pointer (some ⟨w.heap.size, 0, none⟩)]) ∧ w.alloc (.cells #[.slice a n c] 23) = w' := by
  go_enter Try.func21, Try.ntmps21
  go_wp2
  go_ret
  exact ⟨rfl, rfl⟩

set_option maxRecDepth 100000 in
set_option maxHeartbeats 2000000 in
theorem bits_iter (F : Fence) (n : Nat) (hd : F.depth = none) (h22 : F.fn 22) (h23 : F.fn 23) (hro : F.round = none) (B : Nat) (v : Value) (bs : List (BitVec 8)) (w : World) (hB : Row w B #[v] 23) (hv : Bytes w v bs) (hmax : bs.length ≤ 100000) :
    Iter F n Try.prog 22 #[.pointer (some ⟨B, 0, none⟩)] (encN bs) (8 * bs.length + 32) (fun _ => False) (fun b => b = B ∨ blk v b) w := by
  intro l J Jx W hW _ _ hY h0
  have hdd : ∀ k : Nat, (F.depth.isSome = true → 1 ≤ k) := fun k h => by rw [hd] at h; cases h
  have HB := Lib.hid (hB.turns hW (fun h => h))
  have HV : Hid (Bytes W v bs) := Lib.hid (hv.below (hW.below (Nat.le_refl _) (fun _ _ h => h)))
  obtain ⟨a, cap, rfl, hcap⟩ := hv.shape
  clear hW hB hv
  have HS := Lib.hid (steps_in F hd h23 hro l (8 * bs.length + 32) · (encN bs) J Jx (fun b => b = B ∨ blk (.slice a bs.length cap) b) (fun m k W hk hJ => YieldAt.anyDepth hd m (hY k W hk hJ)))
  clear hY
  refine callsIn_of_wp Try.func22 rfl h22 ?_ hro
  simp only [Try.ntmps22, List.size_toArray, List.length_cons, List.length_nil, Nat.reduceAdd, Nat.reduceSub, Array.replicate_succ, Array.replicate_zero, List.push_toArray, List.append_toArray, List.nil_append, List.cons_append]
  have hc := HB.out.cell (j := 0) (v := .slice a bs.length cap) rfl
  gi_wp2
  gi_loopw [7] (fun i wr => ∃ k : Nat, k ≤ bs.length ∧ i = .int .i64 k ∧ J (8 * k) wr ∧ Row wr B #[.slice a bs.length cap] 23 ∧ Bytes wr (.slice a bs.length cap) bs) (fun i _ => bs.length - (intOf i).toNat)
  case atStart => exact ⟨0, Nat.zero_le _, rfl, h0, HB.out, HV.out⟩
  case round =>
    obtain ⟨k, hk, rfl, hJ, hr, hvr⟩ := hrel
    clear hc
    by_cases hlt : k < bs.length
    · obtain ⟨x, hx⟩ : ∃ x, bs[k]? = some x := ⟨_, List.getElem?_eq_getElem hlt⟩
      obtain ⟨bb, off, rfl, hcell⟩ := hvr.at hx
      have HC := HS.out (8 * k) x (by omega) (fun j hj => by unfold encN; rw [bitAt_byte hx j hj]) (n - 1) wr hJ
      have hx0 : (0 : Int) ≤ (x.toNat : Int) := by omega
      have hx1 : (x.toNat : Int) ≤ 255 := by have := x.isLt; omega
      have HR := Lib.hid hr
      have HVR := Lib.hid hvr
      clear HS hr hvr HB HV hx
      gi_wp2_with ((try refine ⟨hdd _, ?_⟩); gi_at_call 23; refine HC.mono ?_; clear HC; rintro e W3 (⟨rfl, hJ3, hS3⟩ | ⟨rfl, q, hq, hx3⟩))
      · have hr3 := HR.out.same (hS3 B (.inl rfl))
        have hv3 := HVR.out.same (fun b hb => hS3 b (.inr hb))
        go_roundw
        case rel => exact ⟨k + 1, by omega, by go_num, by rw [show 8 * (k + 1) = 8 * k + 8 by omega]; exact hJ3, hr3, hv3⟩
        case measure => simp [intOf]; omega
      · refine bodyPost_ret (results_none rfl _ _ _) rfl ?_
        exact ⟨⟨_, rfl⟩, .inr ⟨q, hq, hx3⟩⟩
    · obtain rfl : k = bs.length := by omega
      clear HB HV
      gi_wp2
      gi_loopw [16] (fun i wr => ∃ k : Nat, k ≤ 4 ∧ i = .int .i64 k ∧ J (8 * bs.length + 8 * k) wr) (fun i _ => 4 - (intOf i).toNat)
      case atStart => exact ⟨0, Nat.zero_le _, rfl, hJ⟩
      case round =>
        obtain ⟨t, ht, rfl, hJ2⟩ := hrel
        by_cases hlt2 : t < 4
        · have HC := HS.out (8 * bs.length + 8 * t) 0#8 (by omega) (fun j hj => by unfold encN; rw [Nat.add_assoc, bitAt_tail]; simp) (n - 1) _ hJ2
          clear HS
          gi_wp2_with ((try refine ⟨hdd _, ?_⟩); gi_at_call 23; refine HC.mono ?_; clear HC; rintro e W3 (⟨rfl, hJ3, hS3⟩ | ⟨rfl, q, hq, hx3⟩))
          · go_roundw
            case rel => exact ⟨t + 1, by omega, by go_num, by rw [show 8 * bs.length + 8 * (t + 1) = 8 * bs.length + 8 * t + 8 by omega]; exact hJ3⟩
            case measure => simp [intOf]; omega
          · refine bodyPost_ret (results_none rfl _ _ _) rfl ?_
            exact ⟨⟨_, rfl⟩, .inr ⟨q, hq, hx3⟩⟩
        · obtain rfl : t = 4 := by omega
          gi_wp2
          go_end0
          exact ⟨⟨_, rfl⟩, .inl hJ2⟩
end Go.Proofs.Ytclohcbhnlnddaa
