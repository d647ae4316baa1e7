/-
  The laws MixBack and MixBeside: the plain facts, and the walks.
-/
import Derived.Test.YtganhbebklmdnaaC
import Derived.Laws.IdiomStrings
namespace Go.Proofs.Ytganhbebklmdnaa
open Go.RowKit Go.Shelf

theorem nextF_bd (a b : Int) : 0 ≤ nextF a b ∧ nextF a b < 65536 := by unfold nextF; omega
theorem beforeF_bd (a b : Int) : 0 ≤ beforeF a b ∧ beforeF a b < 65536 := by unfold beforeF; omega
theorem before_next (a b : Int) : beforeF (nextF a b) b = a % 65536 := by unfold beforeF nextF; omega
theorem next_before (a b : Int) : nextF (beforeF a b) b = a % 65536 := by unfold beforeF nextF; omega
theorem next_mod (a b : Int) : nextF (a % 65536) b = nextF a b := by unfold nextF; omega
theorem next_inj (a b c : Int) (hb1 : 0 ≤ b) (hb2 : b ≤ 255) (hc1 : 0 ≤ c) (hc2 : c ≤ 255) : nextF a b = nextF a c ↔ b = c := by unfold nextF; omega
theorem before_inj (a b c : Int) (hb1 : 0 ≤ b) (hb2 : b ≤ 255) (hc1 : 0 ≤ c) (hc2 : c ≤ 255) : beforeF a b = beforeF a c ↔ b = c := by
  constructor
  · intro h
    refine (next_inj (beforeF a b) b c hb1 hb2 hc1 hc2).1 ?_
    rw [next_before, h, next_before]
  · rintro rfl; rfl
theorem next_succ (a b : Int) : nextF a (b + 1) = (nextF a b + 1) % 65536 := by unfold nextF; omega
theorem tmod_facts (n : Int) : -65536 < n.tmod 65536 ∧ n.tmod 65536 < 65536 ∧ (n.tmod 65536 + 65536) % 65536 = n % 65536 := by
  have := Int.tmod_add_mul_tdiv n 65536
  have h2 := Int.tmod_lt_of_pos n (show (0 : Int) < 65536 by omega)
  have h3 := Int.lt_tmod_of_pos n (show (0 : Int) < 65536 by omega)
  omega

set_option maxRecDepth 100000 in
set_option maxHeartbeats 2000000 in
theorem back_walk (a b : Int) (hb1 : 0 ≤ b) (hb2 : b ≤ 255) (w0 : World) (w : World) (h : Good w0 w) : Calls Try.prog 4 #[.int .i64 a, .int .u8 b] w fun e w' => e = .returned (.bool true) ∧ Good w0 w' := by
  obtain ⟨t1, t2, t3⟩ := tmod_facts a
  obtain ⟨n1, n2⟩ := nextF_bd a b
  obtain ⟨m1, m2⟩ := beforeF_bd a b
  have e1 := before_next a b
  have e2 := next_before a b
  have e3 := next_mod a b
  go_enter Try.func4, Try.ntmps4
  go_wp2_with (first
    | (go_at_call 13; refine (next_g w0 _ _ hb1 hb2 _ (by assumption)).mono ?_; rintro e w' ⟨rfl, hg⟩)
    | (go_at_call 15; refine (before_g w0 _ _ hb1 hb2 _ (by assumption)).mono ?_; rintro e w' ⟨rfl, hg⟩)
    | (go_at_call 8; refine (wakes_g w0 _ (by assumption)).mono ?_; rintro e w' ⟨rfl, hg⟩))
  go_ret
  exact ⟨rfl, by assumption⟩

/-- The string of one byte. -/
def oneS (b : Int) : ByteArray := ⟨#[UInt8.ofNat b.toNat]⟩
theorem oneS_size (b : Int) : (oneS b).size = 1 := rfl
theorem oneS_byte (b : Int) (h1 : 0 ≤ b) (h2 : b ≤ 255) : byteAt (oneS b) 0 = b := by
  have h0 : 0 < (oneS b).size := by rw [oneS_size]; omega
  rw [byteAt_lt h0]
  have : ((oneS b)[0]).toNat = b.toNat := by
    show (UInt8.ofNat b.toNat).toNat = b.toNat
    rw [UInt8.toNat_ofNat']
    omega
  rw [this]; omega
theorem goF_one (a b : Int) (h1 : 0 ≤ b) (h2 : b ≤ 255) : goF a (oneS b) (oneS b).size = nextF a b := by
  rw [oneS_size]
  show nextF (a % 65536) (byteAt (oneS b) 0) = _
  rw [oneS_byte b h1 h2, next_mod]
theorem run_oneS (b : Int) (h1 : 0 ≤ b) (h2 : b ≤ 255) (w : World) :
    (convert 35 9 (.slice (some ⟨w.heap.size, 0, none⟩) 1 1)).run Try.prog (w.alloc (.cells #[.int .u8 b] 5)) = .ok (.string (oneS b)) (w.alloc (.cells #[.int .u8 b] 5)) := by
  refine run_convert_bytes_back (w.alloc (.cells #[.int .u8 b] 5)) 35 9 5 ⟨w.heap.size, 0, none⟩ 1 [UInt8.ofNat b.toNat] Try.underlying35 Try.underlying5 Try.underlying9 ?_
  intro j hj
  have : j = 0 := by simpa using hj
  subst this
  have hc := (Row.new w #[.int .u8 b] 5).cell (j := 0) (v := .int .u8 b) rfl
  have e : ((UInt8.ofNat b.toNat).toNat : Int) = b := by rw [UInt8.toNat_ofNat']; omega
  simp only [List.getElem_cons_zero, e]
  exact hc

set_option maxRecDepth 100000 in
set_option maxHeartbeats 2000000 in
theorem beside_walk (a b : Int) (hb1 : 0 ≤ b) (hb2 : b ≤ 255) (c : Int) (hc1 : 0 ≤ c) (hc2 : c ≤ 255) (w0 : World) (w : World) (h : Good w0 w) : Calls Try.prog 7 #[.int .i64 a, .int .u8 b, .int .u8 c] w fun e w' => e = .returned (.bool true) ∧ Good w0 w' := by
  obtain ⟨t1, t2, t3⟩ := tmod_facts a
  obtain ⟨n1, n2⟩ := nextF_bd a b
  have e1 : (nextF a b == nextF a c) = (b == c) := by
    rw [Bool.eq_iff_iff]; simpa using next_inj a b c hb1 hb2 hc1 hc2
  have e2 : (beforeF a b == beforeF a c) = (b == c) := by
    rw [Bool.eq_iff_iff]; simpa using before_inj a b c hb1 hb2 hc1 hc2
  have e4 : goF (beforeF a b) (oneS b) (oneS b).size = a % 65536 := by rw [goF_one _ b hb1 hb2, next_before]
  have e5 : goF (beforeF a c) (oneS c) (oneS c).size = a % 65536 := by rw [goF_one _ c hc1 hc2, next_before]
  have r1 := run_oneS b hb1 hb2
  have r2 := run_oneS c hc1 hc2
  have s1 : (oneS b).size ≤ maxLen := by rw [oneS_size]; decide
  have s2 : (oneS c).size ≤ maxLen := by rw [oneS_size]; decide
  have S1 := Lib.hid s1
  have S2 := Lib.hid s2
  clear s1 s2
  by_cases k : b < 255
  · have e3 : (nextF a b + 1) % 65536 = nextF a (b + 1) := (next_succ a b).symm
    go_enter Try.func7, Try.ntmps7
    go_wp2_with (first
      | (go_at_call 13; refine (next_g w0 _ _ (by omega) (by omega) _ (by assumption)).mono ?_; rintro e w' ⟨rfl, hg⟩)
      | (go_at_call 15; refine (before_g w0 _ _ (by omega) (by omega) _ (by assumption)).mono ?_; rintro e w' ⟨rfl, hg⟩))
    refine (go_g w0 _ (oneS b) S1.out _ (hg.alloc _)).mono ?_; rintro e w' ⟨rfl, hg⟩
    go_wp2_with fail
    refine (go_g w0 _ (oneS c) S2.out _ (hg.alloc _)).mono ?_; rintro e w' ⟨rfl, hg⟩
    go_wp2_with fail
    refine (wakes_g w0 _ hg).mono ?_; rintro e w' ⟨rfl, hg⟩
    go_wp2
    go_ret
    exact ⟨rfl, hg⟩
  · have k2 : b = 255 := by omega
    subst k2
    clear k
    go_enter Try.func7, Try.ntmps7
    go_wp2_with (first
      | (go_at_call 13; refine (next_g w0 _ _ (by omega) (by omega) _ (by assumption)).mono ?_; rintro e w' ⟨rfl, hg⟩)
      | (go_at_call 15; refine (before_g w0 _ _ (by omega) (by omega) _ (by assumption)).mono ?_; rintro e w' ⟨rfl, hg⟩))
    refine (go_g w0 _ (oneS 255) S1.out _ (hg.alloc _)).mono ?_; rintro e w' ⟨rfl, hg⟩
    go_wp2_with fail
    refine (go_g w0 _ (oneS c) S2.out _ (hg.alloc _)).mono ?_; rintro e w' ⟨rfl, hg⟩
    go_wp2_with fail
    refine (wakes_g w0 _ hg).mono ?_; rintro e w' ⟨rfl, hg⟩
    go_wp2
    go_ret
    exact ⟨rfl, hg⟩
end Go.Proofs.Ytganhbebklmdnaa
