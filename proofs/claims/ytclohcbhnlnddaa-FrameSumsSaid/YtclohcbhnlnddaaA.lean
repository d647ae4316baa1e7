/-
  The plain algebra of sums: states, bits, frames; no program in sight.
  Conditions: none beyond those that each lemma states.
-/
import Derived.Lib.Hide
namespace Go.Proofs.Ytclohcbhnlnddaa

def pat : BitVec 32 := 0x741b8cd7#32
/-- The state behind a bit. -/
def stepB (s : BitVec 32) (b : Bool) : BitVec 32 := ((s <<< 1) ^^^ (bif b then 1#32 else 0#32)) ^^^ (bif s.msb then pat else 0#32)

theorem bif_xor (b c : Bool) (x : BitVec 32) : (bif (b ^^ c) then x else 0#32) = (bif b then x else 0#32) ^^^ (bif c then x else 0#32) := by
  cases b <;> cases c <;> simp
theorem xor_six (a b c d e f : BitVec 32) : ((a ^^^ d) ^^^ (b ^^^ e)) ^^^ (c ^^^ f) = ((a ^^^ b) ^^^ c) ^^^ ((d ^^^ e) ^^^ f) := by ac_rfl
theorem stepB_xor (s t : BitVec 32) (b c : Bool) : stepB (s ^^^ t) (b ^^ c) = stepB s b ^^^ stepB t c := by
  unfold stepB
  rw [BitVec.shiftLeft_xor_distrib, BitVec.msb_xor, bif_xor, bif_xor, xor_six]
theorem xor_zero_iff (a b : BitVec 32) : a ^^^ b = 0#32 ↔ a = b := by
  constructor
  · intro h
    have := congrArg (· ^^^ b) h
    simpa [BitVec.xor_assoc] using this
  · rintro rfl; simp
theorem stepB_zero : stepB 0#32 false = 0#32 := by decide
theorem stepB_low (s : BitVec 32) (b : Bool) : (stepB s b).getLsbD 0 = (b ^^ s.msb) := by
  unfold stepB
  have : pat.getLsbD 0 = true := by decide
  cases b <;> cases h : s.msb <;> simp [this]
theorem stepB_up (s : BitVec 32) (b : Bool) (i : Nat) (hi : i < 31) : (stepB s b).getLsbD (i + 1) = (s.getLsbD i ^^ (s.msb && pat.getLsbD (i + 1))) := by
  unfold stepB
  have h1 : (bif b then 1#32 else 0#32 : BitVec 32).getLsbD (i + 1) = false := by
    cases b
    · simp
    · show (1#32).getLsbD (i + 1) = false
      rw [BitVec.getLsbD_one]; simp
  rw [BitVec.getLsbD_xor, BitVec.getLsbD_xor, h1, BitVec.getLsbD_shiftLeft]
  have e : decide (i + 1 < 32) = true := by simp; omega
  cases h : s.msb <;> simp [e]
theorem stepB_null {s : BitVec 32} (h : stepB s false = 0#32) : s = 0#32 := by
  have h0 := stepB_low s false
  rw [h] at h0
  have hm : s.msb = false := by simpa using h0.symm
  refine BitVec.eq_of_getLsbD_eq fun i hi => ?_
  rw [BitVec.getLsbD_zero]
  by_cases h31 : i < 31
  · have := stepB_up s false i h31
    rw [h, hm] at this
    simpa using this.symm
  · have : i = 31 := by omega
    subst this
    rw [BitVec.msb_eq_getLsbD_last] at hm
    exact hm
theorem stepB_inj {s t : BitVec 32} {b : Bool} (h : stepB s b = stepB t b) : s = t := by
  have := stepB_xor s t b b
  rw [h, Bool.xor_self, BitVec.xor_self] at this
  exact (xor_zero_iff s t).1 (stepB_null this)
theorem stepB_bits (s : BitVec 32) : stepB s true = stepB s false ^^^ 1#32 := by
  have := stepB_xor s 0#32 false true
  rw [BitVec.xor_zero] at this
  rw [show stepB 0#32 true = 1#32 by decide] at this
  exact this

/-- The state behind a row of bits. -/
def runB (s : BitVec 32) (l : List Bool) : BitVec 32 := l.foldl stepB s
theorem runB_nil (s : BitVec 32) : runB s [] = s := rfl
theorem runB_cons (s : BitVec 32) (b : Bool) (l : List Bool) : runB s (b :: l) = runB (stepB s b) l := rfl
theorem runB_append (s : BitVec 32) (l m : List Bool) : runB s (l ++ m) = runB (runB s l) m := List.foldl_append ..
theorem runB_xor (l m : List Bool) (h : l.length = m.length) (s t : BitVec 32) : runB (s ^^^ t) (List.zipWith (· ^^ ·) l m) = runB s l ^^^ runB t m := by
  induction l generalizing m s t with
  | nil =>
    obtain rfl : m = [] := List.length_eq_zero_iff.1 h.symm
    rfl
  | cons b l ih =>
    cases m with
    | nil => simp at h
    | cons c m =>
      rw [List.zipWith_cons_cons, runB_cons, runB_cons, runB_cons, stepB_xor]
      exact ih m (by simpa using h) _ _
def zeros (n : Nat) : List Bool := List.replicate n false
theorem runB_zeros (n : Nat) : runB 0#32 (zeros n) = 0#32 := by
  induction n with
  | zero => rfl
  | succ n ih => rw [zeros, List.replicate_succ, runB_cons, stepB_zero]; exact ih
theorem runB_inj (l : List Bool) {s t : BitVec 32} (h : runB s l = runB t l) : s = t := by
  induction l generalizing s t with
  | nil => exact h
  | cons b l ih => exact stepB_inj (ih h)

/-- From 0 on up to 32 bits stand in the state as they came. -/
theorem runB_bits (l : List Bool) (h : l.length ≤ 32) (i : Nat) (hi : i < 32) : (runB 0#32 l.reverse).getLsbD i = (l[i]?).getD false := by
  induction l generalizing i with
  | nil => simp [runB_nil]
  | cons b l ih =>
    have hl : l.length ≤ 31 := by simpa using h
    rw [List.reverse_cons, runB_append, runB_cons, runB_nil]
    have hm : (runB 0#32 l.reverse).msb = false := by
      rw [BitVec.msb_eq_getLsbD_last, ih (by omega) 31 (by omega), List.getElem?_eq_none (by omega)]
      rfl
    cases i with
    | zero => rw [stepB_low, hm]; simp
    | succ i =>
      rw [stepB_up _ _ _ (by omega), hm, ih (by omega) i (by omega)]
      simp

/-- The bits of a byte, of bytes: the highest first. -/
def byteBits (b : BitVec 8) : List Bool := [b.getLsbD 7, b.getLsbD 6, b.getLsbD 5, b.getLsbD 4, b.getLsbD 3, b.getLsbD 2, b.getLsbD 1, b.getLsbD 0]
def bitsOf : List (BitVec 8) → List Bool
  | [] => []
  | b :: l => byteBits b ++ bitsOf l
theorem bitsOf_append (l m : List (BitVec 8)) : bitsOf (l ++ m) = bitsOf l ++ bitsOf m := by
  induction l with
  | nil => rfl
  | cons b l ih => rw [List.cons_append, bitsOf, bitsOf, ih, List.append_assoc]
theorem bitsOf_length (l : List (BitVec 8)) : (bitsOf l).length = 8 * l.length := by
  induction l with
  | nil => rfl
  | cons b l ih => rw [bitsOf, List.length_append, ih, List.length_cons]; simp [byteBits]; omega
theorem byteBits_get (b : BitVec 8) (p : Nat) (hp : p < 8) : (byteBits b)[p]? = some (b.getLsbD (7 - p)) := by
  match p, hp with
  | 0, _ => rfl
  | 1, _ => rfl
  | 2, _ => rfl
  | 3, _ => rfl
  | 4, _ => rfl
  | 5, _ => rfl
  | 6, _ => rfl
  | 7, _ => rfl
theorem bitsOf_get (l : List (BitVec 8)) (p : Nat) : (bitsOf l)[p]? = (l[p / 8]?).map (·.getLsbD (7 - p % 8)) := by
  induction l generalizing p with
  | nil => simp [bitsOf]
  | cons b l ih =>
    rw [bitsOf]
    by_cases hp : p < 8
    · rw [List.getElem?_append_left (by simp [byteBits]; omega), byteBits_get b p hp, Nat.div_eq_of_lt hp, Nat.mod_eq_of_lt hp]
      rfl
    · obtain ⟨q, rfl⟩ : ∃ q, p = q + 8 := ⟨p - 8, by omega⟩
      rw [List.getElem?_append_right (by simp [byteBits]), show (byteBits b).length = 8 from rfl, Nat.add_sub_cancel, ih q,
        show (q + 8) / 8 = q / 8 + 1 by omega, show (q + 8) % 8 = q % 8 by omega]
      rfl
theorem bitsOf_inj {l m : List (BitVec 8)} (h : bitsOf l = bitsOf m) : l = m := by
  have hl : l.length = m.length := by
    have := congrArg List.length h
    rw [bitsOf_length, bitsOf_length] at this
    omega
  refine List.ext_getElem? fun j => ?_
  by_cases hj : j < l.length
  · rw [List.getElem?_eq_getElem hj, List.getElem?_eq_getElem (by omega : j < m.length)]
    congr 1
    refine BitVec.eq_of_getLsbD_eq fun k hk => ?_
    have := congrArg (fun x => x[8 * j + (7 - k)]?) h
    simp only [bitsOf_get] at this
    rw [show (8 * j + (7 - k)) / 8 = j by omega, show 7 - (8 * j + (7 - k)) % 8 = k by omega, List.getElem?_eq_getElem hj, List.getElem?_eq_getElem (by omega : j < m.length)] at this
    simpa using this
  · rw [List.getElem?_eq_none (by omega), List.getElem?_eq_none (by omega)]

/-- The sum of bytes; the four bytes of a sum. -/
def ones : BitVec 32 := 0xffffffff#32
def sumF (l : List (BitVec 8)) : BitVec 32 := runB ones (bitsOf l ++ zeros 32)
def be (s : BitVec 32) : List (BitVec 8) := [s.extractLsb' 24 8, s.extractLsb' 16 8, s.extractLsb' 8 8, s.extractLsb' 0 8]
theorem be_length (s : BitVec 32) : (be s).length = 4 := rfl
theorem runB_be (s : BitVec 32) : runB 0#32 (bitsOf (be s)) = s := by
  have e : bitsOf (be s) = ((List.range 32).map fun i => s.getLsbD i).reverse := by
    simp [be, bitsOf, byteBits, List.range, List.range.loop]
  rw [e]
  refine BitVec.eq_of_getLsbD_eq fun i hi => ?_
  rw [runB_bits _ (by simp) i hi]
  simp [hi]
theorem runB_all (s : BitVec 32) (x : BitVec 32) : runB s (bitsOf (be x)) = runB s (zeros 32) ^^^ x := by
  have h := runB_xor (zeros 32) (bitsOf (be x)) (by rw [bitsOf_length]; simp [zeros, be_length]) s 0#32
  have e : List.zipWith (· ^^ ·) (zeros 32) (bitsOf (be x)) = bitsOf (be x) := by
    have : ∀ l : List Bool, List.zipWith (· ^^ ·) (zeros l.length) l = l := fun l => by
      induction l with
      | nil => rfl
      | cons b l ih =>
        rw [List.length_cons, zeros, List.replicate_succ, List.zipWith_cons_cons, Bool.false_xor]
        exact congrArg (List.cons b) ih
    exact this (bitsOf (be x))
  rw [BitVec.xor_zero, runB_be, e] at h
  exact h
/-- With its own sum behind it a row of bytes leads to 0, and with no other one. -/
theorem frame_null (l : List (BitVec 8)) (x : BitVec 32) : runB ones (bitsOf (l ++ be x)) = sumF l ^^^ x := by
  rw [bitsOf_append, runB_append, runB_all, sumF, runB_append]

theorem zeros_of {l : List Bool} (h : ∀ p : Nat, (l[p]?).getD false = false) : l = zeros l.length := by
  refine List.eq_replicate_iff.2 ⟨rfl, fun b hb => ?_⟩
  obtain ⟨p, hp⟩ := List.mem_iff_getElem?.1 hb
  have := h p
  rwa [hp] at this
/-- TWO ROWS that both lead to 0 and part in at most 32 bits side by side are the same. -/
theorem burst_same (l m : List (BitVec 8)) (hlen : l.length = m.length) (s : BitVec 32) (hl : runB s (bitsOf l) = 0#32) (hm : runB s (bitsOf m) = 0#32) (a : Nat)
    (h : ∀ p, p < a ∨ a + 32 ≤ p → (bitsOf l)[p]? = (bitsOf m)[p]?) : l = m := by
  obtain ⟨E, hE⟩ : ∃ E, E = List.zipWith (· ^^ ·) (bitsOf l) (bitsOf m) := ⟨_, rfl⟩
  have hbl : (bitsOf l).length = (bitsOf m).length := by rw [bitsOf_length, bitsOf_length, hlen]
  have h0 : runB 0#32 E = 0#32 := by
    have := runB_xor (bitsOf l) (bitsOf m) hbl s s
    rw [BitVec.xor_self, hl, hm, BitVec.xor_self, ← hE] at this
    exact this
  have hget : ∀ p : Nat, E[p]? = ((bitsOf l)[p]?).bind fun x => ((bitsOf m)[p]?).map fun y => (x ^^ y) := fun p => by
    rw [hE, List.getElem?_zipWith]
    generalize (bitsOf l)[p]? = u
    generalize (bitsOf m)[p]? = v
    cases u <;> cases v <;> rfl
  have hout : ∀ p, p < a ∨ a + 32 ≤ p → (E[p]?).getD false = false := fun p hp => by
    rw [hget, h p hp]
    cases (bitsOf m)[p]? <;> simp
  have e1 : E = E.take a ++ (((E.drop a).take 32) ++ (E.drop a).drop 32) := by rw [List.take_append_drop, List.take_append_drop]
  have z1 : E.take a = zeros (E.take a).length := zeros_of fun p => by
    rw [List.getElem?_take]
    split
    · exact hout p (.inl (by assumption))
    · rfl
  have z2 : (E.drop a).drop 32 = zeros ((E.drop a).drop 32).length := zeros_of fun p => by
    rw [List.getElem?_drop, List.getElem?_drop]
    exact hout _ (.inr (by omega))
  rw [e1, z1, z2, runB_append, runB_zeros, runB_append] at h0
  have h1 : runB 0#32 ((E.drop a).take 32) = 0#32 := runB_inj _ (h0.trans (runB_zeros _).symm)
  have hall : ∀ p, (E[p]?).getD false = false := fun p => by
    by_cases hp : p < a ∨ a + 32 ≤ p
    · exact hout p hp
    · have hlen32 : ((E.drop a).take 32).length ≤ 32 := by rw [List.length_take]; omega
      obtain ⟨M, hM⟩ : ∃ M, M = (E.drop a).take 32 := ⟨_, rfl⟩
      rw [← hM] at h1 hlen32
      have e2 : E[p]? = M[p - a]? := by
        rw [hM, List.getElem?_take_of_lt (by omega), List.getElem?_drop]
        congr 1; omega
      rw [e2]
      by_cases hpm : p - a < M.length
      · have := runB_bits M.reverse (by simpa using hlen32) (M.length - 1 - (p - a)) (by omega)
        rw [List.reverse_reverse, h1, List.getElem?_reverse (by omega)] at this
        rw [show M.length - 1 - (M.length - 1 - (p - a)) = p - a by omega] at this
        rw [← this]; simp
      · rw [List.getElem?_eq_none (by omega)]; rfl
  refine bitsOf_inj (List.ext_getElem? fun p => ?_)
  have := hall p
  rw [hget] at this
  by_cases hp : p < (bitsOf l).length
  · rw [List.getElem?_eq_getElem hp, List.getElem?_eq_getElem (by omega : p < (bitsOf m).length)] at this ⊢
    simp only [Option.bind_some, Option.map_some, Option.getD_some] at this
    congr 1
    revert this
    cases (bitsOf l)[p] <;> cases (bitsOf m)[p] <;> simp
  · rw [List.getElem?_eq_none (by omega), List.getElem?_eq_none (by omega)]

/-- Three rows put together. -/
theorem byteBits_xor (a b : BitVec 8) : byteBits (a ^^^ b) = List.zipWith (· ^^ ·) (byteBits a) (byteBits b) := by simp [byteBits]
theorem bitsOf_xor (l m : List (BitVec 8)) (h : l.length = m.length) : bitsOf (List.zipWith (· ^^^ ·) l m) = List.zipWith (· ^^ ·) (bitsOf l) (bitsOf m) := by
  induction l generalizing m with
  | nil =>
    obtain rfl : m = [] := List.length_eq_zero_iff.1 h.symm
    rfl
  | cons a l ih =>
    cases m with
    | nil => simp at h
    | cons b m =>
      rw [List.zipWith_cons_cons, bitsOf, bitsOf, bitsOf, ih m (by simpa using h), byteBits_xor, List.zipWith_append (by simp [byteBits])]
theorem runOnes_xor3 (l m k : List (BitVec 8)) (h1 : l.length = m.length) (h2 : m.length = k.length) :
    sumF (List.zipWith (· ^^^ ·) (List.zipWith (· ^^^ ·) l m) k) = sumF l ^^^ sumF m ^^^ sumF k := by
  have z : ∀ n, zeros n = List.zipWith (· ^^ ·) (zeros n) (zeros n) := fun n => by
    induction n with
    | zero => rfl
    | succ n ih =>
      rw [zeros, List.replicate_succ, List.zipWith_cons_cons]
      exact congrArg (List.cons false) ih
  have e : ∀ (x y : List (BitVec 8)), x.length = y.length → bitsOf (List.zipWith (· ^^^ ·) x y) ++ zeros 32 = List.zipWith (· ^^ ·) (bitsOf x ++ zeros 32) (bitsOf y ++ zeros 32) := fun x y hxy => by
    rw [List.zipWith_append (by rw [bitsOf_length, bitsOf_length, hxy]), ← z, bitsOf_xor x y hxy]
  have hz : (List.zipWith (· ^^^ ·) l m).length = k.length := by simp; omega
  have a1 := runB_xor (bitsOf (List.zipWith (· ^^^ ·) l m) ++ zeros 32) (bitsOf k ++ zeros 32) (by simp [bitsOf_length]; omega) (ones ^^^ ones) ones
  have a2 := runB_xor (bitsOf l ++ zeros 32) (bitsOf m ++ zeros 32) (by simp [bitsOf_length]; omega) ones ones
  rw [← e _ k hz, e l m h1, a2, show (ones ^^^ ones) ^^^ ones = ones by decide] at a1
  exact a1
end Go.Proofs.Ytclohcbhnlnddaa
