/-
  What a frame is, in plain Lean: heads, frames, payloads, what opens; no program in sight.
  Conditions: none beyond those that each lemma states.
-/
import Derived.Test.YtclohcbhnlnddaaA
namespace Go.Proofs.Ytclohcbhnlnddaa

def headF (n : Nat) : List (BitVec 8) := [71#8, 1#8, BitVec.ofNat 8 (n / 256), BitVec.ofNat 8 n]
def closeF (p : List (BitVec 8)) : List (BitVec 8) := (headF p.length ++ p) ++ be (sumF (headF p.length ++ p))
def payload (b : List (BitVec 8)) : List (BitVec 8) := (b.drop 4).take (b.length - 8)
def opens (b : List (BitVec 8)) : Bool := decide (8 ≤ b.length) && (decide (b.length ≤ 120) && decide (b = closeF (payload b)))
def openE (b : List (BitVec 8)) : Int := if b.length < 8 then 11 else if opens b then 0 else 12

theorem headF_length (n : Nat) : (headF n).length = 4 := rfl
theorem closeF_length (p : List (BitVec 8)) : (closeF p).length = p.length + 8 := by
  simp only [closeF, List.length_append, headF_length, be_length]; omega
theorem payload_length {b : List (BitVec 8)} (h : 8 ≤ b.length) : (payload b).length = b.length - 8 := by
  unfold payload; rw [List.length_take, List.length_drop]; omega
theorem payload_close (p : List (BitVec 8)) : payload (closeF p) = p := by
  unfold payload
  rw [closeF_length, show p.length + 8 - 8 = p.length by omega]
  unfold closeF
  rw [List.append_assoc, List.drop_left' (headF_length _), List.take_left]
theorem opens_close {p : List (BitVec 8)} (h : p.length ≤ 112) : opens (closeF p) = true := by
  unfold opens
  rw [payload_close, closeF_length]
  simp; omega
theorem opens_parts {b : List (BitVec 8)} (h : opens b = true) : 8 ≤ b.length ∧ b.length ≤ 120 ∧ b = closeF (payload b) := by
  unfold opens at h
  simpa [Bool.and_eq_true] using h
theorem close_null (p : List (BitVec 8)) : runB ones (bitsOf (closeF p)) = 0#32 := by
  unfold closeF
  rw [frame_null, BitVec.xor_self]
theorem opens_null {b : List (BitVec 8)} (h : opens b = true) : runB ones (bitsOf b) = 0#32 := by
  rw [(opens_parts h).2.2]; exact close_null _
theorem close_inj {p q : List (BitVec 8)} (h : closeF p = closeF q) : p = q := by
  rw [← payload_close p, h, payload_close]

/-- The bytes of a row that is long enough, part by part. -/
theorem cut_parts {b : List (BitVec 8)} (h : 8 ≤ b.length) : ∃ x0 x1 x2 x3, b = ([x0, x1, x2, x3] ++ payload b) ++ b.drop (b.length - 4) ∧ b[0]? = some x0 ∧ b[1]? = some x1 ∧ b[2]? = some x2 ∧ b[3]? = some x3 := by
  obtain ⟨x0, x1, x2, x3, r, rfl⟩ : ∃ x0 x1 x2 x3 r, b = x0 :: x1 :: x2 :: x3 :: r := by
    match b, h with
    | x0 :: x1 :: x2 :: x3 :: r, _ => exact ⟨x0, x1, x2, x3, r, rfl⟩
  refine ⟨x0, x1, x2, x3, ?_, rfl, rfl, rfl, rfl⟩
  have e : (x0 :: x1 :: x2 :: x3 :: r).length - 4 = r.length := by simp
  have e8 : (x0 :: x1 :: x2 :: x3 :: r).length - 8 = r.length - 4 := by simp
  have h4 : 4 ≤ r.length := by simp at h; omega
  have ed : (x0 :: x1 :: x2 :: x3 :: r).drop r.length = r.drop (r.length - 4) := by
    obtain ⟨m, hm⟩ : ∃ m, r.length = m + 4 := ⟨r.length - 4, by omega⟩
    rw [hm]; rfl
  unfold payload
  rw [e, e8, ed]
  show _ = ([x0, x1, x2, x3] ++ r.take (r.length - 4)) ++ r.drop (r.length - 4)
  rw [List.append_assoc, List.take_append_drop]
  rfl

/-- What the program looks at, one behind the other. -/
theorem opens_of_looks {b : List (BitVec 8)} (h8 : 8 ≤ b.length) (h120 : b.length ≤ 120) (x2 x3 : BitVec 8) (h0 : b[0]? = some 71#8) (h1 : b[1]? = some 1#8) (h2 : b[2]? = some x2) (h3 : b[3]? = some x3)
    (hn : b.length = x2.toNat * 256 + x3.toNat + 8) (ht : b.drop (b.length - 4) = be (sumF (b.take (b.length - 4)))) : opens b = true := by
  obtain ⟨y0, y1, y2, y3, hb, g0, g1, g2, g3⟩ := cut_parts h8
  rw [h0] at g0; rw [h1] at g1; rw [h2] at g2; rw [h3] at g3
  cases g0; cases g1; cases g2; cases g3
  have hp := payload_length h8
  have hhead : headF (payload b).length = [71#8, 1#8, x2, x3] := by
    unfold headF
    have hx2 : x2.toNat = 0 := by omega
    have e2 : BitVec.ofNat 8 ((payload b).length / 256) = x2 := by
      refine BitVec.eq_of_toNat_eq ?_
      rw [BitVec.toNat_ofNat, hx2, hp]; omega
    have e3 : BitVec.ofNat 8 (payload b).length = x3 := by
      refine BitVec.eq_of_toNat_eq ?_
      have := x3.isLt
      rw [BitVec.toNat_ofNat, hp]; omega
    rw [e2, e3]
  have htake : b.take (b.length - 4) = [71#8, 1#8, x2, x3] ++ payload b := by
    have hl : ([71#8, 1#8, x2, x3] ++ payload b).length = b.length - 4 := by simp [hp]; omega
    have := congrArg (List.take (b.length - 4)) hb
    rw [List.take_left' hl] at this
    exact this
  unfold opens
  simp only [Bool.and_eq_true, decide_eq_true_eq]
  refine ⟨h8, h120, ?_⟩
  unfold closeF
  rw [hhead]
  rw [htake] at ht
  rw [← ht]
  exact hb
/-- .. and what it sees in what opens. -/
theorem looks_of_opens {b : List (BitVec 8)} (h : opens b = true) : b[0]? = some 71#8 ∧ b[1]? = some 1#8 ∧ b[2]? = some 0#8 ∧ b[3]? = some (BitVec.ofNat 8 (b.length - 8)) ∧ b.drop (b.length - 4) = be (sumF (b.take (b.length - 4))) := by
  obtain ⟨h8, h120, hb⟩ := opens_parts h
  have hp := payload_length h8
  have hlen : b.length - 4 = (headF (payload b).length ++ payload b).length := by rw [List.length_append, headF_length, hp]; omega
  have e1 : b.take (b.length - 4) = headF (payload b).length ++ payload b := by
    rw [hlen]
    conv => lhs; arg 2; rw [hb]
    exact List.take_left
  have e2 : b.drop (b.length - 4) = be (sumF (headF (payload b).length ++ payload b)) := by
    rw [hlen]
    conv => lhs; arg 2; rw [hb]
    exact List.drop_left
  refine ⟨?_, ?_, ?_, ?_, by rw [e1, e2]⟩
  · rw [hb]; rfl
  · rw [hb]; rfl
  · rw [hb]
    show some (BitVec.ofNat 8 ((payload b).length / 256)) = _
    rw [hp, show (b.length - 8) / 256 = 0 by omega]
  · have : (closeF (payload b))[3]? = some (BitVec.ofNat 8 (payload b).length) := rfl
    rw [← hb, hp] at this
    exact this
end Go.Proofs.Ytclohcbhnlnddaa
