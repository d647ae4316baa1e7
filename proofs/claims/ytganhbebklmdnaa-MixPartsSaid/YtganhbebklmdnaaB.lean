/-
  The bytes of a key, one behind the other; and where a key leads from a place.
-/
import Derived.Test.YtganhbebklmdnaaA
import Derived.Test.YtganhbebklmdnaaLoops
import Derived.Test.YtganhbebklmdnaaScopes
import Derived.RangeFuncCalls
import Derived.RangeFuncBox
import Derived.Shelf.Abstract
import Derived.Shelf.RegionOpen
import Derived.OwnWalkIn
import Derived.TacticsInMore
import Derived.LoopNIn
import Derived.LoopIn
namespace Go.Proofs.Ytganhbebklmdnaa
open Go.RowKit Go.Shelf
attribute [local go_sem] Oper.semAt_some

/-- The k-th byte of s, as a number. -/
def byteAt (s : ByteArray) (k : Nat) : Int := if h : k < s.size then ((s[k]).toNat : Int) else 0
theorem byteAt_lt {s : ByteArray} {k : Nat} (h : k < s.size) : byteAt s k = ((s[k]).toNat : Int) := by simp [byteAt, h]
theorem byteAt_bd (s : ByteArray) (k : Nat) : 0 ≤ byteAt s k ∧ byteAt s k ≤ 255 := by
  unfold byteAt
  split
  · have := (s[k]).toNat_lt
    omega
  · omega
def encB (s : ByteArray) (k : Nat) : Array Value := #[.int .u8 (byteAt s k)]

/-- The place behind the first k bytes. -/
def goF (a : Int) (s : ByteArray) : Nat → Int
  | 0 => a % 65536
  | k + 1 => nextF (goF a s k) (byteAt s k)

theorem bytes_any (s : ByteArray) (w : World) : Calls Try.prog 23 #[.string s] w fun e w' =>
    e = .returned (.func (.func 24) #[] #[.pointer (some ⟨w.heap.size, 0, none⟩)]) ∧ w.alloc (.cells #[.string s] 9) = w' := by
  go_enter Try.func23, Try.ntmps23
  go_wp2
  go_ret
  exact ⟨rfl, rfl⟩

set_option maxRecDepth 100000 in
set_option maxHeartbeats 1000000 in
theorem bytes_iter (F : Fence) (n : Nat) (h24 : F.fn 24) (hro : F.round = none) (hn : 1 ≤ n) (B : Nat) (s : ByteArray) (hs : s.size ≤ maxLen) (w : World) (hB : Row w B #[.string s] 9) :
    Iter F n Try.prog 24 #[.pointer (some ⟨B, 0, none⟩)] (encB s) s.size (fun _ => False) (fun b => b = B) w := by
  intro l J Jx W hW _ _ hY h0
  unfold maxLen at hs
  have hrow := hB.turns hW (fun h => h)
  have hc := hrow.cell (j := 0) (v := .string s) rfl
  clear hW hB
  refine callsIn_of_wp Try.func24 rfl h24 ?_ hro
  simp only [Try.ntmps24, List.size_toArray, List.length_cons, List.length_nil, Nat.reduceAdd, Nat.reduceSub, Array.replicate_succ, Array.replicate_zero, List.push_toArray, List.append_toArray, List.nil_append, List.cons_append]
  gi_wp2
  gi_loopw [6] (fun i wr => ∃ k : Nat, k ≤ s.size ∧ i = .int .i64 k ∧ J k wr ∧ Row wr B #[.string s] 9) (fun i _ => s.size - (intOf i).toNat)
  case atStart => exact ⟨0, Nat.zero_le _, rfl, h0, hrow⟩
  case round =>
    obtain ⟨k, hk, rfl, hJ, hr⟩ := hrel
    clear hrow hc
    have hc := hr.cell (j := 0) (v := .string s) rfl
    by_cases hlt : k < s.size
    · have hy0 := hY k wr hlt hJ
      unfold encB at hy0
      rw [byteAt_lt hlt] at hy0
      obtain ⟨fn, tmps, assign, body, hy, hR⟩ := hy0
      clear hY
      gi_wp2
      refine hR.mono ?_
      rintro e W3 (⟨rfl, hJ3, hS3⟩ | ⟨rfl, hJx3⟩)
      · have hr3 := hr.same (hS3 B rfl)
        gi_wp2
        go_roundw
        case rel => exact ⟨k + 1, by omega, by go_num, hJ3, hr3⟩
        case measure => simp [intOf]; omega
      · gi_wp2
        refine bodyPost_ret (results_none rfl _ _ _) rfl ?_
        exact ⟨⟨_, rfl⟩, .inr ⟨k, hlt, hJx3⟩⟩
    · obtain rfl : k = s.size := by omega
      gi_wp2
      go_end0
      exact ⟨⟨_, rfl⟩, .inl hJ⟩

set_option maxRecDepth 100000 in
set_option maxHeartbeats 1000000 in
theorem go_in (a : Int) (s : ByteArray) (hs : s.size ≤ maxLen) (w : World) : CallsIn Fence.wide 3 Try.prog 17 #[.int .i64 a, .string s] w fun e w' =>
    e = .returned (.int .i64 (goF a s s.size)) ∧ Below w.heap.size w w' := by
  refine callsIn_of_wp_marks Try.func17 rfl trivial ?_ rfl
  simp only [Try.ntmps17, List.size_toArray, List.length_cons, List.length_nil, Nat.reduceAdd, Nat.reduceSub, Array.replicate_succ, Array.replicate_zero, List.push_toArray, List.append_toArray, List.nil_append, List.cons_append]
  refine wpIn_wide.2 ?_
  go_wp2_with (first | (go_at_call 20; refine (rest_any _ _).mono ?_; rintro e w' ⟨rfl, rfl⟩) | (go_at_call 23; refine (bytes_any _ _).mono ?_; rintro e w' ⟨rfl, rfl⟩))
  have hbox : Row ((w.alloc (.cells #[.int .i64 (a % 65536)] 3)).alloc (.cells #[.string s] 9)) w.heap.size #[.int .i64 (goF a s 0)] 3 := (Row.new w _ 3).alloc _
  have hkey : Row ((w.alloc (.cells #[.int .i64 (a % 65536)] 3)).alloc (.cells #[.string s] 9)) (w.heap.size + 1) #[.string s] 9 := by
    have := Row.new (w.alloc (.cells #[.int .i64 (a % 65536)] 3)) #[.string s] 9
    rwa [World.size_alloc] at this
  have hbel : Below w.heap.size w ((w.alloc (.cells #[.int .i64 (a % 65536)] 3)).alloc (.cells #[.string s] 9)) := ((Below.refl _ w).alloc (Nat.le_refl _) _).alloc (by simp) _
  have hsize : ((w.alloc (.cells #[.int .i64 (a % 65536)] 3)).alloc (.cells #[.string s] 9)).heap.size = w.heap.size + 2 := by simp
  generalize (w.alloc (.cells #[.int .i64 (a % 65536)] 3)).alloc (.cells #[.string s] 9) = w3 at *
  obtain ⟨m, hm⟩ : ∃ m, w.heap.size = m := ⟨_, rfl⟩
  rw [hm] at hbox hkey hsize ⊢
  have HM := Lib.hid hm
  clear hm
  refine (wpIn_wide (n := 3)).1 (wpIn_range rfl (by omega) (gf := 24) (lb := #[.pointer (some ⟨m + 1, 0, none⟩)]) rfl trivial (enters_of Try.func24 (by kernel_rfl) rfl)
    (bytes_iter Fence.wide (3 - 1) trivial rfl (by omega) (m + 1) s hs w3 hkey) (fun _ => rfl)
    (fun k => k = m) (fun k hk => by omega) (fun _ h => by omega) (fun _ h => h.elim)
    (fun k W => Row W m #[.int .i64 (goF a s k)] 3) (fun _ _ _ => False)
    (fun k A B h hb => h.same (hb _ rfl)) (fun _ _ _ _ h _ => h) hbox
    (fun k => { tmps := #[.int .i64 a, .string s, .pointer (some ⟨m, 0, none⟩), undef, .int .i64 0, .int .u8 (byteAt s k), .int .i64 a, .int .i64 (a % 65536), .string s, .func (.func 24) #[] #[.pointer (some ⟨m + 1, 0, none⟩)], .int .u8 (byteAt s k), undef, undef, undef, undef], defers := [] }) ?assign ?body ?done ?stop)
  case assign =>
    intro l k W K hK
    simp only [encB]
    gi_wp2
    exact hK
  case body =>
    intro l k W hk _ hI
    have hc := hI.cell (j := 0) (v := .int .i64 (goF a s k)) rfl
    have hf := hI.free 0
    have hb := byteAt_bd s k
    gi_wp2_with ((try refine ⟨trivial, ?_⟩); gi_at_call 13; refine (CallsIn.inRound l (callsIn_wide.2 (next_any _ _ hb.1 hb.2 _))).mono ?_; rintro e w' ⟨rfl, rfl⟩)
    exact ⟨(Turns.refl (fun x => x = m) W).setCell (p := ⟨m, 0, none⟩) (.inr rfl) _, hI.set 0 (.int .i64 (goF a s (k + 1)))⟩
  case done =>
    intro D W hD ht hI hK
    have hc := hI.cell (j := 0) (v := .int .i64 (goF a s s.size)) rfl
    go_wp2
    refine ⟨by simp, .inl ⟨_, _, rfl, run_takeDeferred hK, ?_⟩⟩
    refine ⟨_, results_tmp rfl _ _ _, rfl, ?_⟩
    rw [HM.out] at hbel ⊢
    exact (hbel.trans (ht.below (by omega) (fun k hk => by rintro (h | h) <;> omega))).trans
      (((Turns.refl (fun x => x = D) W).putObj (.inr rfl) _).below (by have := ht.size; omega) (fun k hk => by omega))
  case stop =>
    intro D c k W _ _ _ h _
    exact h.elim

theorem go_any (a : Int) (s : ByteArray) (hs : s.size ≤ maxLen) (w : World) : Calls Try.prog 17 #[.int .i64 a, .string s] w fun e w' =>
    e = .returned (.int .i64 (goF a s s.size)) ∧ Below w.heap.size w w' := callsIn_wide.1 (go_in a s hs w)

set_option maxHeartbeats 1000000 in
theorem refgo_any (a : Int) (s : ByteArray) (hs : s.size ≤ maxLen) (w : World) : Calls Try.prog 18 #[.int .i64 a, .string s] w fun e w' =>
    e = .returned (.int .i64 (goF a s s.size)) ∧ w = w' := by
  unfold maxLen at hs
  go_enter Try.func18, Try.ntmps18
  go_wp2_with (go_at_call 21; refine (place_any _ _).mono ?_; rintro e w' ⟨rfl, rfl⟩)
  go_loop [0, 5] (fun p i => ∃ k : Nat, k ≤ s.size ∧ i = .int .i64 k ∧ p = .int .i64 (goF a s k)) (fun _ i => s.size - (intOf i).toNat)
  case atStart => exact ⟨0, Nat.zero_le _, rfl, rfl⟩
  case round =>
    obtain ⟨k, hk, rfl, rfl⟩ := hrel
    by_cases hlt : k < s.size
    · have hb := byteAt_bd s k
      have e : goF a s (k + 1) = nextF (goF a s k) (byteAt s k) := rfl
      rw [byteAt_lt hlt] at hb e
      have HE := Lib.hid e
      clear e
      obtain ⟨hb1, hb2⟩ := hb
      go_wp2_with (go_at_call 14; refine (refnext_any _ _ hb1 hb2 _).mono ?_; rintro e w' ⟨rfl, rfl⟩)
      go_round
      case rel => exact ⟨k + 1, by omega, by go_num, by rw [HE.out]⟩
      case measure => simp [intOf]; omega
    · obtain rfl : k = s.size := by omega
      go_wp2
      go_ret
      exact ⟨rfl, rfl⟩

/-- A key's place, and the error that goes with it. -/
def ofP (s : ByteArray) : Int := if s.size < 1 ∨ 20 < s.size then 0 else goF 7 s s.size
def ofE (s : ByteArray) : Int := if s.size < 1 ∨ 20 < s.size then 2 else 0

set_option maxHeartbeats 1000000 in
theorem refof_any (s : ByteArray) (hs : s.size ≤ maxLen) (w : World) : Calls Try.prog 10 #[.string s] w fun e w' =>
    e = .returned (.tuple #[.int .i64 (ofP s), .int .i64 (ofE s)]) ∧ w = w' := by
  have hs' := hs
  unfold maxLen at hs
  by_cases c1 : s.size < 1
  · have e1 : ofP s = 0 := by simp [ofP, c1]
    have e2 : ofE s = 2 := by simp [ofE, c1]
    rw [e1, e2]; clear e1 e2
    go_enter Try.func10, Try.ntmps10
    go_wp2
    go_ret2
    exact ⟨rfl, rfl⟩
  · by_cases c2 : 20 < s.size
    · have e1 : ofP s = 0 := by simp [ofP, c2]
      have e2 : ofE s = 2 := by simp [ofE, c2]
      rw [e1, e2]; clear e1 e2
      go_enter Try.func10, Try.ntmps10
      go_wp2
      go_ret2
      exact ⟨rfl, rfl⟩
    · have e1 : ofP s = goF 7 s s.size := by simp [ofP, c1, c2]
      have e2 : ofE s = 0 := by simp [ofE, c1, c2]
      rw [e1, e2]; clear e1 e2
      go_enter Try.func10, Try.ntmps10
      go_wp2_with (go_at_call 18; refine (refgo_any _ _ hs' _).mono ?_; rintro e w' ⟨rfl, rfl⟩)
      go_ret2
      exact ⟨rfl, rfl⟩

set_option maxHeartbeats 1000000 in
theorem of_any (s : ByteArray) (hs : s.size ≤ maxLen) (w : World) : Calls Try.prog 9 #[.string s] w fun e w' =>
    e = .returned (.tuple #[.int .i64 (ofP s), .int .i64 (ofE s)]) ∧ Below w.heap.size w w' := by
  have hs' := hs
  unfold maxLen at hs
  by_cases c1 : s.size < 1
  · have e1 : ofP s = 0 := by simp [ofP, c1]
    have e2 : ofE s = 2 := by simp [ofE, c1]
    rw [e1, e2]; clear e1 e2
    go_enter Try.func9, Try.ntmps9
    go_wp2
    refine wp_scope_labels (fun l a' w' => l = 0 ∧ w = w' ∧ ∃ u4 u5 u6 u7 u8 u9 u10 u11 u12 u13 : Value, a' = { tmps := #[.string s, undef, .int .i64 0, .int .i64 0, u4, u5, u6, u7, u8, u9, u10, u11, u12, u13], defers := [] }) (fun _ _ _ => 0) ?first ?pass
    case first =>
      go_wp2
      go_step3
      exact ⟨rfl, rfl, _, _, _, _, _, _, _, _, _, _, rfl⟩
    case pass =>
      rintro l a' w' ⟨rfl, rfl, u4, u5, u6, u7, u8, u9, u10, u11, u12, u13, rfl⟩
      refine ⟨_, rfl, ?_⟩
      go_wp2
      rw [jumps_ret]
      go_ret2
      exact ⟨rfl, Below.refl _ _⟩
  · by_cases c2 : 20 < s.size
    · have e1 : ofP s = 0 := by simp [ofP, c2]
      have e2 : ofE s = 2 := by simp [ofE, c2]
      rw [e1, e2]; clear e1 e2
      go_enter Try.func9, Try.ntmps9
      go_wp2
      refine wp_scope_labels (fun l a' w' => l = 0 ∧ w = w' ∧ ∃ u4 u5 u6 u7 u8 u9 u10 u11 u12 u13 : Value, a' = { tmps := #[.string s, undef, .int .i64 0, .int .i64 0, u4, u5, u6, u7, u8, u9, u10, u11, u12, u13], defers := [] }) (fun _ _ _ => 0) ?first ?pass
      case first =>
        go_wp2
        go_step3
        exact ⟨rfl, rfl, _, _, _, _, _, _, _, _, _, _, rfl⟩
      case pass =>
        rintro l a' w' ⟨rfl, rfl, u4, u5, u6, u7, u8, u9, u10, u11, u12, u13, rfl⟩
        refine ⟨_, rfl, ?_⟩
        go_wp2
        rw [jumps_ret]
        go_ret2
        exact ⟨rfl, Below.refl _ _⟩
    · have e1 : ofP s = goF 7 s s.size := by simp [ofP, c1, c2]
      have e2 : ofE s = 0 := by simp [ofE, c1, c2]
      rw [e1, e2]; clear e1 e2
      go_enter Try.func9, Try.ntmps9
      go_wp2
      refine wp_scope_labels (fun _ _ _ => False) (fun _ _ _ => 0) ?first (fun _ _ _ h => h.elim)
      go_wp2_with (go_at_call 17; refine (go_any _ _ hs' _).mono ?_; rintro e w' ⟨rfl, hb⟩)
      rw [jumps_ret]
      go_ret2
      exact ⟨rfl, hb⟩
end Go.Proofs.Ytganhbebklmdnaa
