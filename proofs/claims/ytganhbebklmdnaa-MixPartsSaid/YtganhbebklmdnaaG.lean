/-
  The law MixOne: the plain facts, and the walk.
-/
import Derived.Test.YtganhbebklmdnaaE
import Derived.Lib.ConvBytes
namespace Go.Proofs.Ytganhbebklmdnaa
open Go.RowKit Go.Shelf

theorem next_cancel {x y b : Int} (h1 : 0 ≤ x) (h2 : x < 65536) (h3 : 0 ≤ y) (h4 : y < 65536) (h : nextF x b = nextF y b) : x = y := by
  have e1 := before_next x b
  have e2 := before_next y b
  rw [h, e2] at e1
  omega
theorem wrap_u8 (n : Int) : IntKind.u8.wrap n = n % 256 := by simp [IntKind.wrap, IntKind.bits, IntKind.signed]
theorem goF_bd (a : Int) (s : ByteArray) (k : Nat) : 0 ≤ goF a s k ∧ goF a s k < 65536 := by
  cases k with
  | zero => show 0 ≤ a % 65536 ∧ a % 65536 < 65536; omega
  | succ k => exact nextF_bd _ _
/-- From two unlike places one key leads to unlike ones. -/
theorem goF_start (a b : Int) (s : ByteArray) (k : Nat) (h : goF a s k = goF b s k) : a % 65536 = b % 65536 := by
  induction k with
  | zero => exact h
  | succ k ih => exact ih (next_cancel (goF_bd a s k).1 (goF_bd a s k).2 (goF_bd b s k).1 (goF_bd b s k).2 h)
/-- Keys that part in one byte lead to unlike places. -/
theorem goF_same (a : Int) (s s' : ByteArray) (k : Nat) (h : ∀ j, j < k → byteAt s j = byteAt s' j) : goF a s k = goF a s' k := by
  induction k with
  | zero => rfl
  | succ k ih =>
    show nextF (goF a s k) (byteAt s k) = nextF (goF a s' k) (byteAt s' k)
    rw [ih fun j hj => h j (by omega), h k (by omega)]
theorem goF_apart (a : Int) (s s' : ByteArray) (i k : Nat) (hi : i < k) (h : ∀ j, j ≠ i → byteAt s j = byteAt s' j) (hne : byteAt s i ≠ byteAt s' i) : goF a s k ≠ goF a s' k := by
  induction k with
  | zero => omega
  | succ k ih =>
    intro e
    by_cases hk : i = k
    · subst hk
      have e2 : nextF (goF a s i) (byteAt s i) = nextF (goF a s i) (byteAt s' i) := by
        have e3 := goF_same a s s' i fun j hj => h j (by omega)
        have e4 : nextF (goF a s i) (byteAt s i) = nextF (goF a s' i) (byteAt s' i) := e
        rw [← e3] at e4
        exact e4
      have b1 := byteAt_bd s i
      have b2 := byteAt_bd s' i
      exact hne ((next_inj _ _ _ b1.1 b1.2 b2.1 b2.2).1 e2)
    · refine ih (by omega) (next_cancel (b := byteAt s k) (goF_bd a s k).1 (goF_bd a s k).2 (goF_bd a s' k).1 (goF_bd a s' k).2 ?_)
      have e4 : nextF (goF a s k) (byteAt s k) = nextF (goF a s' k) (byteAt s' k) := e
      rw [← h k (by omega)] at e4
      exact e4

/-- A byte put together with another one. -/
theorem xor_bd (x y : Int) : 0 ≤ bits .xor .u8 x y ∧ bits .xor .u8 x y ≤ 255 := by
  show 0 ≤ IntKind.u8.wrap _ ∧ IntKind.u8.wrap _ ≤ 255
  rw [wrap_u8]
  omega
theorem xor_ne (x y : Int) (hx1 : 0 ≤ x) (hx2 : x ≤ 255) (hy1 : 0 ≤ y) (hy2 : y ≤ 255) (hy : y ≠ 0) : bits .xor .u8 x y ≠ x := by
  intro h
  have h1 : (BitVec.ofInt 8 x).toNat = x.toNat := by rw [BitVec.toNat_ofInt]; omega
  have h2 : (BitVec.ofInt 8 y).toNat = y.toNat := by rw [BitVec.toNat_ofInt]; omega
  have h3 : bits .xor .u8 x y = ((BitVec.ofInt 8 x ^^^ BitVec.ofInt 8 y).toNat : Int) := by
    show IntKind.u8.wrap (((BitVec.ofInt 8 x ^^^ BitVec.ofInt 8 y).toNat : Nat) : Int) = _
    have := (BitVec.ofInt 8 x ^^^ BitVec.ofInt 8 y).isLt
    rw [wrap_u8]
    exact Int.emod_eq_of_lt (by omega) (by omega)
  rw [h3] at h
  have h4 : (BitVec.ofInt 8 x ^^^ BitVec.ofInt 8 y).toNat = (BitVec.ofInt 8 x).toNat := by omega
  have h5 : BitVec.ofInt 8 x ^^^ BitVec.ofInt 8 y = BitVec.ofInt 8 x := BitVec.eq_of_toNat_eq h4
  have h6 : BitVec.ofInt 8 y = 0#8 := by
    have := congrArg (BitVec.ofInt 8 x ^^^ ·) h5
    simpa [← BitVec.xor_assoc] using this
  rw [h6] at h2
  simp at h2
  omega

/-- The key with one byte put together with another one. -/
def mixed (s : ByteArray) (i : Nat) (y : Int) : ByteArray := ⟨(s.data.toList.set i (UInt8.ofNat (bits .xor .u8 (byteAt s i) y).toNat)).toArray⟩
theorem mixed_size (s : ByteArray) (i : Nat) (y : Int) : (mixed s i y).size = s.size := by
  show (s.data.toList.set i _).toArray.size = s.data.size
  simp
theorem mixed_list (s : ByteArray) (i : Nat) (y : Int) : (mixed s i y).data.toList = s.data.toList.set i (UInt8.ofNat (bits .xor .u8 (byteAt s i) y).toNat) := rfl
theorem byteAt_list (s : ByteArray) (k : Nat) : byteAt s k = ((s.data.toList[k]?.getD 0).toNat : Int) := by
  unfold byteAt
  split
  · rename_i h
    have h' : k < s.data.toList.length := by simpa using h
    rw [List.getElem?_eq_getElem h']
    rfl
  · rename_i h
    rw [List.getElem?_eq_none (by simpa using h)]
    rfl
theorem mixed_byte (s : ByteArray) (i : Nat) (y : Int) (hi : i < s.size) : byteAt (mixed s i y) i = bits .xor .u8 (byteAt s i) y := by
  have b := xor_bd (byteAt s i) y
  have h' : i < s.data.toList.length := by simpa using hi
  rw [byteAt_list (mixed s i y), mixed_list, List.getElem?_set_self h']
  simp only [Option.getD_some]
  rw [UInt8.toNat_ofNat']
  omega
theorem mixed_other (s : ByteArray) (i j : Nat) (y : Int) (hj : j ≠ i) : byteAt s j = byteAt (mixed s i y) j := by
  rw [byteAt_list s, byteAt_list (mixed s i y), mixed_list, List.getElem?_set_ne (fun h => hj h.symm)]
theorem mixed_apart (a : Int) (s : ByteArray) (i : Nat) (y : Int) (hi : i < s.size) (hy1 : 0 ≤ y) (hy2 : y ≤ 255) (hy : y ≠ 0) : goF a s s.size ≠ goF a (mixed s i y) (mixed s i y).size := by
  rw [mixed_size]
  refine goF_apart a s (mixed s i y) i s.size hi (fun j hj => mixed_other s i j y hj) ?_
  rw [mixed_byte s i y hi]
  have b := byteAt_bd s i
  exact fun h => xor_ne (byteAt s i) y b.1 b.2 hy1 hy2 hy h.symm

/-- A key's place, within bounds. -/
theorem ofP_in {s : ByteArray} (h1 : 1 ≤ s.size) (h2 : s.size ≤ 20) : ofP s = goF 7 s s.size := by unfold ofP; rw [if_neg (by omega)]
theorem ofE_in {s : ByteArray} (h1 : 1 ≤ s.size) (h2 : s.size ≤ 20) : ofE s = 0 := by unfold ofE; rw [if_neg (by omega)]
theorem tmod_size (a : Int) (n : Int) (h1 : 1 ≤ n) : -n < a.tmod n ∧ a.tmod n < n ∧ 0 ≤ (a.tmod n + n) % n ∧ (a.tmod n + n) % n < n := by
  have h2 := Int.tmod_lt_of_pos a (show (0 : Int) < n by omega)
  have h3 := Int.lt_tmod_of_pos a (show (0 : Int) < n by omega)
  exact ⟨h3, h2, Int.emod_nonneg _ (by omega), Int.emod_lt_of_pos _ (by omega)⟩

/-- What is known of the new row of bytes. -/
theorem bytes_made (w : World) (s : ByteArray) : Below w.heap.size w (Lib.bytesWorld w 5 s) ∧ (Lib.bytesWorld w 5 s).heap.size = w.heap.size + 1 ∧
    (∀ j, j < s.size → (Lib.bytesWorld w 5 s).cell? ⟨w.heap.size, j, none⟩ = some (.int .u8 (byteAt s j))) ∧ (∀ j, j < s.size → (Lib.bytesWorld w 5 s).frozen? ⟨w.heap.size, j, none⟩ = false) := by
  refine ⟨⟨rfl, rfl, rfl, by rw [Lib.bytesWorld_size]; omega, fun k hk => Lib.bytesWorld_at_old w 5 s k hk⟩, Lib.bytesWorld_size w 5 s, fun j hj => ?_, fun j hj => ?_⟩
  · rw [Lib.bytesWorld_cell w 5 s j hj, byteAt_list]
    rfl
  · have h := Lib.bytesWorld_at_new w 5 s
    unfold World.frozen?
    rw [show (Lib.bytesWorld w 5 s).heap[(⟨w.heap.size, j, none⟩ : Addr).block]? = _ from h]
    have hs : s.size ≤ (Lib.bytesCells w 5 s).size := by
      show s.data.size ≤ _
      simp [Lib.bytesCells]
    simp only [Bool.and_eq_false_iff, decide_eq_false_iff_not]
    omega

/-- The row of bytes, one of them put together with another one, as a string. -/
theorem back_mixed (m : Nat) (s : ByteArray) (i : Nat) (y : Int) (cap : Nat) (w : World) (hi : i < s.size)
    (hc : ∀ j, j < s.size → w.cell? ⟨m, j, none⟩ = some (.int .u8 (if j = i then bits .xor .u8 (byteAt s i) y else byteAt s j))) :
    (convert 35 9 (.slice (some ⟨m, 0, none⟩) s.size cap)).run Try.prog w = .ok (.string (mixed s i y)) w := by
  have hl : (s.data.toList.set i (UInt8.ofNat (bits .xor .u8 (byteAt s i) y).toNat)).length = s.size := by rw [List.length_set]; rfl
  have := run_convert_bytes_back w 35 9 5 ⟨m, 0, none⟩ cap (s.data.toList.set i (UInt8.ofNat (bits .xor .u8 (byteAt s i) y).toNat)) Try.underlying35 Try.underlying5 Try.underlying9 (fun j hj => by
    have hj' : j < s.size := by omega
    have e : (⟨m, 0, none⟩ : Addr).add j = ⟨m, j, none⟩ := by unfold Addr.add; split <;> simp_all
    rw [e, hc j hj']
    have b := byteAt_list (mixed s i y) j
    rw [mixed_list, List.getElem?_eq_getElem hj, Option.getD_some] at b
    rw [← b]
    by_cases hji : j = i
    · subst hji
      rw [if_pos rfl, mixed_byte s j y hi]
    · rw [if_neg hji, ← mixed_other s i j y hji])
  rw [hl] at this
  exact this

set_option maxRecDepth 100000 in
set_option maxHeartbeats 4000000 in
theorem one_in (s : ByteArray) (a y p q : Int) (hy1 : 0 ≤ y) (hy2 : y ≤ 255) (w0 : World) (w : World) (h : Good w0 w) (h1 : 1 ≤ s.size) (h2 : s.size ≤ 20) (hy : y ≠ 0) :
    Calls Try.prog 5 #[.string s, .int .i64 a, .int .u8 y, .int .i64 p, .int .i64 q] w fun e w' => e = .returned (.bool true) ∧ Good w0 w' := by
  obtain ⟨t1, t2, t3, t4⟩ := tmod_size a (s.size : Int) (by omega)
  obtain ⟨i, hi⟩ := Int.eq_ofNat_of_zero_le t3
  have hi2 : i < s.size := by omega
  obtain ⟨q1, q2, q3⟩ := tmod_facts p
  obtain ⟨r1, r2, r3⟩ := tmod_facts q
  have y0 : (y == 0) = false := by simpa using hy
  have hconv := Lib.run_convert_string_bytes (P := Try.prog) w 9 35 5 s Try.underlying9 Try.underlying35 Try.underlying5
  obtain ⟨hbel, hsz, hcs, hfs⟩ := bytes_made w s
  have HC := Lib.hid hcs
  have hc1 := hcs i hi2
  have hf1 := hfs i hi2
  have HS : Hid (s.size ≤ maxLen) := Lib.hid (by unfold maxLen; omega)
  have HX : Hid (ofP s = ofP (mixed s i y) → False) := Lib.hid (fun e => by
    rw [ofP_in h1 h2, ofP_in (by rw [mixed_size]; exact h1) (by rw [mixed_size]; exact h2)] at e
    exact mixed_apart 7 s i y hi2 hy1 hy2 hy e)
  have HE1 : Hid (ofE s = 0) := Lib.hid (ofE_in h1 h2)
  have HE2 : Hid (ofE (mixed s i y) = 0) := Lib.hid (ofE_in (by rw [mixed_size]; exact h1) (by rw [mixed_size]; exact h2))
  have HG : Hid ((goF (p % 65536) s s.size == goF (q % 65536) s s.size) = (p % 65536 == q % 65536)) := Lib.hid (by
    rw [Bool.eq_iff_iff]
    simp only [beq_iff_eq]
    constructor
    · intro e
      have := goF_start _ _ s s.size e
      omega
    · intro e; rw [e])
  generalize hw1 : Lib.bytesWorld w 5 s = w1 at *
  have H1 := Lib.hid (Good.below h hbel)
  have HZ := Lib.hid hsz
  have HT : ∀ v, Good w0 (w1.setCell ⟨w.heap.size, i, none⟩ v) := fun v => Good.below h ((hbel.setCell (p := ⟨w.heap.size, i, none⟩) (Nat.le_refl _) v))
  have HT' := Lib.hid HT
  clear hcs hfs hbel hsz HT hw1
  go_enter Try.func5, Try.ntmps5
  go_wp2_with fail
  refine (of_any s HS.out _).mono ?_; rintro e w2 ⟨rfl, hb2⟩
  have hback : (convert 35 9 (.slice (some ⟨w.heap.size, 0, none⟩) s.size (grownCap w s.size 0 5))).run Try.prog w2 = .ok (.string (mixed s i y)) w2 := by
    refine back_mixed w.heap.size s i y _ w2 hi2 (fun j hj => ?_)
    rw [hb2.cell (p := ⟨w.heap.size, j, none⟩) (show w.heap.size < _ by rw [World.size_setCell, HZ.out]; omega)]
    by_cases hji : j = i
    · subst hji
      rw [if_pos rfl]
      exact World.cell?_setCell_same' _ _ _ (by rw [hc1]; rfl)
    · rw [if_neg hji, World.cell?_setCell_other _ _ _ _ (fun e => hji (by simpa using congrArg Addr.off e.symm))]
      exact HC.out j hj
  have H2 := Lib.hid (Good.below (HT'.out _) hb2)
  have he1 := HE1.out
  clear hb2 hc1 hf1 hconv
  go_wp2_with fail
  refine (of_any _ (by rw [mixed_size]; exact HS.out) _).mono ?_; rintro e w3 ⟨rfl, hb3⟩
  have H3 := Lib.hid (H2.out.below hb3)
  have he2 := HE2.out
  have hne : (ofP s != ofP (mixed s i y)) = true := by
    rw [bne_iff_ne]; exact HX.out
  clear hb3 hback
  go_wp2_with fail
  refine (go_any _ s HS.out _).mono ?_; rintro e w4 ⟨rfl, hb4⟩
  have H4 := Lib.hid (H3.out.below hb4)
  clear hb4
  go_wp2_with fail
  refine (go_any _ s HS.out _).mono ?_; rintro e w5 ⟨rfl, hb5⟩
  have H5 := Lib.hid (H4.out.below hb5)
  have hg := HG.out
  clear hb5
  go_wp2_with fail
  refine (wakes_g w0 _ H5.out).mono ?_; rintro e w6 ⟨rfl, h6⟩
  go_wp2
  go_ret
  exact ⟨rfl, h6⟩

set_option maxRecDepth 100000 in
set_option maxHeartbeats 2000000 in
theorem one_walk (s : ByteArray) (_hs : s.size ≤ maxLen) (a y : Int) (hy1 : 0 ≤ y) (hy2 : y ≤ 255) (p q : Int) (w0 : World) (w : World) (h : Good w0 w) :
    Calls Try.prog 5 #[.string s, .int .i64 a, .int .u8 y, .int .i64 p, .int .i64 q] w fun e w' => e = .returned (.bool true) ∧ Good w0 w' := by
  by_cases c1 : s.size < 1
  · go_enter Try.func5, Try.ntmps5
    go_wp2_with (go_at_call 8; refine (wakes_g w0 _ h).mono ?_; rintro e w' ⟨rfl, hg⟩)
    go_ret
    exact ⟨rfl, hg⟩
  · by_cases c2 : 20 < s.size
    · go_enter Try.func5, Try.ntmps5
      go_wp2_with (go_at_call 8; refine (wakes_g w0 _ h).mono ?_; rintro e w' ⟨rfl, hg⟩)
      go_ret
      exact ⟨rfl, hg⟩
    · by_cases c3 : y = 0
      · subst c3
        go_enter Try.func5, Try.ntmps5
        go_wp2_with (go_at_call 8; refine (wakes_g w0 _ h).mono ?_; rintro e w' ⟨rfl, hg⟩)
        go_ret
        exact ⟨rfl, hg⟩
      · exact one_in s a y p q hy1 hy2 w0 w h (by omega) (by omega) c3
end Go.Proofs.Ytganhbebklmdnaa
