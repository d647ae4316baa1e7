/-
  Rows of bytes that a call owns: made, appended to, written; and what is the same.
-/
import Derived.Test.YtclohcbhnlnddaaE
import Derived.Laws.OwnMore
import Derived.Laws.IdiomStrings
import Derived.Laws.BytesArg
namespace Go.Proofs.Ytclohcbhnlnddaa
open Go.RowKit Go.Shelf

theorem Try.info5 : (Try.prog.info? 5).map (fun i => (i.zero, i.size, i.bytes)) = some (some (.int .u8 0), 1, 1) := by kernel_rfl

/-- The row v, come to be since w0, holds the bytes xs; w0 has at most grown. -/
structure OwnB (w0 w : World) (v : Value) (xs : List (BitVec 8)) : Prop where
  row : w.ownsRow w0.heap.size 5 1 v xs.length (xs.map encb)
  below : Below w0.heap.size w0 w

theorem OwnB.bytes {w0 w : World} {v : Value} {xs : List (BitVec 8)} (h : OwnB w0 w v xs) : Bytes w v xs := by
  have hc := fun g hg => World.ownsRow.cells h.row (g := g) hg
  have hl := World.ownsRow.lt h.row
  rcases h.row.2 with ⟨rfl, h0⟩ | ⟨g, cap, cur, rfl, -, hg, hnc, -⟩
  · have : xs = [] := List.length_eq_zero_iff.1 h0
    subst this
    exact ⟨none, 0, rfl, Nat.le_refl _, fun _ => rfl, .inl rfl⟩
  · refine ⟨some ⟨g, 0, none⟩, cap, rfl, hnc, (fun e => by cases e), .inr ⟨g, 0, rfl, (hl g rfl).2, fun j u hj => ?_⟩⟩
    have := hc g rfl j (encb u) (by rw [List.getElem?_map, hj]; rfl)
    rw [Nat.zero_add]
    by_cases h0 : j = 0
    · subst h0; simpa [Addr.add] using this
    · simpa [Addr.add, h0] using this
theorem OwnB.later {w0 w w' : World} {v : Value} {xs : List (BitVec 8)} (h : OwnB w0 w v xs) (hb : Below w.heap.size w w') : OwnB w0 w' v xs := by
  refine ⟨?_, h.below.trans (hb.mono h.below.size)⟩
  exact h.row.kept (row := none) ⟨hb.os, hb.tape, hb.output, hb.size, fun k hk _ => hb.block k hk⟩ (by cases hv : v.ownBlock <;> simp)
theorem OwnB.alloc {w0 w : World} {v : Value} {xs : List (BitVec 8)} (h : OwnB w0 w v xs) (o : Obj) : OwnB w0 (w.alloc o) v xs := h.later ((Below.refl _ w).alloc (Nat.le_refl _) o)
theorem OwnB.nil (w : World) : OwnB w w (.slice none 0 0) [] := ⟨World.ownsRow_nil _ _ _ _, Below.refl _ _⟩
/-- A row that is laid, whole. -/
theorem OwnB.lit {w0 w : World} (h : Below w0.heap.size w0 w) (xs : List (BitVec 8)) (vs : Array Value) (hvs : vs = (xs.map encb).toArray) (n : Nat) (hn : n = xs.length) (hs : xs.length ≤ 100000) :
    OwnB w0 (w.alloc (.cells vs 5)) (.slice (some ⟨w.heap.size, 0, none⟩) n n) xs := by
  subst hvs; subst hn
  refine ⟨?_, h.alloc h.size _⟩
  have := World.ownsRow_lit (e := 5) (size := 1) w (xs.map encb).toArray xs.length h.size (by unfold maxLen; omega) (by simp)
  simpa using this
theorem OwnB.made {w0 w : World} (h : Below w0.heap.size w0 w) (vs : Array Value) (c : Nat) (hc : vs.size = c) (hs : c ≤ 100000) :
    OwnB w0 (w.alloc (.cells vs 5)) (.slice (some ⟨w.heap.size, 0, none⟩) 0 c) [] := by
  subst hc
  exact ⟨World.ownsRow_made w vs vs.size h.size (by unfold maxLen; omega) (by simp), h.alloc h.size _⟩
theorem OwnB.shape {w0 w : World} {v : Value} {xs : List (BitVec 8)} (h : OwnB w0 w v xs) : ∃ a cap, v = .slice a xs.length cap ∧ xs.length ≤ cap := h.bytes.shape
theorem bytes_new (w : World) (xs : List (BitVec 8)) (vs : Array Value) (hvs : vs = (xs.map encb).toArray) (n : Nat) (hn : n = xs.length) (hs : xs.length ≤ 100000) (B : Nat) (hB : w.heap.size = B) :
    Bytes (w.alloc (.cells vs 5)) (.slice (some ⟨B, 0, none⟩) n n) xs := by
  subst hB
  exact (OwnB.lit (Below.refl _ w) xs vs hvs n hn hs).bytes

theorem append_run {w0 w : World} {v : Value} {xs : List (BitVec 8)} (h : OwnB w0 w v xs) (x : Value) (l : List (BitVec 8)) (hx : Bytes w x l) (hs : xs.length + l.length ≤ 100000) :
    ∃ v' w', (Builtin.append_ #[23, 23] 23 #[v, x]).run Try.prog w = .ok v' w' ∧ OwnB w0 w' v' (xs ++ l) := by
  obtain ⟨i0, hi, hz0, hz1, hz2⟩ := info_parts Try.info5
  obtain ⟨a, cap, rfl, hcap, hnone, hc⟩ := hx
  cases a with
  | none =>
    obtain rfl := hnone rfl
    obtain rfl : l = [] := List.length_eq_zero_iff.1 (by omega)
    exact ⟨v, w, run_append_owned_none (P := Try.prog) w w0.heap.size 23 23 5 i0 1 Try.underlying23 hi v _ _ h.row, by rw [List.append_nil]; exact h⟩
  | some ad =>
    have hnews : ∀ j u, (l.map encb)[j]? = some u → w.cell? (ad.add j) = some u := by
      intro j u hu
      rcases hc with rfl | ⟨b, off, e, hl, hc⟩
      · simp at hu
      · cases e
        rw [List.getElem?_map] at hu
        cases hj : l[j]? with
        | none => rw [hj] at hu; cases hu
        | some q =>
          rw [hj] at hu
          cases hu
          rw [Addr.add_lit]
          exact hc j q hj
    obtain ⟨v', w', hr, h2, h3, -⟩ := run_append_own (P := Try.prog) w w0.heap.size 23 23 5 i0 (.int .u8 0) 1 1 Try.underlying23 hi hz0 hz1 hz2 rfl (by decide) v _ _ h.row ad l.length cap (l.map encb) (by simp) hnews
      (by intro u hu; obtain ⟨q, -, rfl⟩ := List.mem_map.1 hu; rfl) (by unfold maxLen; omega) (by omega) h.below.size
    refine ⟨v', w', hr, ?_, h.below.grown h3 h.below.size (fun j hj => (World.ownsRow.lt h.row j hj).1)⟩
    rw [List.map_append, List.length_append]
    exact h2

theorem wpList_append_bytes {ops : Array Oper} {rest : List Oper} {o : Oper} {a : Act} {Q : Exit → Act → World → Prop} {w : World} (hgd : o.guard = none) (s x : Operand)
    (ho : o.op = .call { callee := .builtin .append, args := #[s, x], argTypes := #[23, 23] }) (hty : o.type = 23) {w0 : World} {v : Value} {xs : List (BitVec 8)} (hs : a.eval s = v) (h : OwnB w0 w v xs) (xv : Value) (l : List (BitVec 8))
    (hx : a.eval x = xv) (hl : Bytes w xv l) (hsm : xs.length + l.length ≤ 100000)
    (hK : ∀ v' w', OwnB w0 w' v' (xs ++ l) → wpList Try.prog ops Q rest (a.put o.dst v') w') : wpList Try.prog ops Q (o :: rest) a w :=
  wpList_plain hgd fun _ hK' => by
    obtain ⟨v', w', hr, h2⟩ := append_run h xv l hl hsm
    unfold Oper.wp execOp
    simp only [ho, hty, resolve, invoke, builtin, Sem.run_bind, Sem.run_pure, Result.andThen_ok, List.map_toArray, List.map_cons, List.map_nil, hs, hx, hr]
    exact hK' _ _ (hK v' w' h2)

/-- The bytes as a string. -/
def strB (l : List (BitVec 8)) : ByteArray := ⟨(l.map UInt8.ofBitVec).toArray⟩
theorem map_bits_inj {l m : List (BitVec 8)} (h : l.map UInt8.ofBitVec = m.map UInt8.ofBitVec) : l = m := by
  induction l generalizing m with
  | nil =>
    cases m with
    | nil => rfl
    | cons b m => simp at h
  | cons a l ih =>
    cases m with
    | nil => simp at h
    | cons b m =>
      simp only [List.map_cons, List.cons.injEq] at h
      rw [ih h.2, show a = b by simpa using congrArg UInt8.toBitVec h.1]
theorem strB_eq (l m : List (BitVec 8)) : ((strB l).toList == (strB m).toList) = decide (l = m) := by
  unfold strB
  rw [ByteArray.toList_mk, ByteArray.toList_mk, Bool.eq_iff_iff]
  simp only [beq_iff_eq, decide_eq_true_eq]
  exact ⟨map_bits_inj, fun h => by rw [h]⟩
theorem run_strB (w : World) (v : Value) (l : List (BitVec 8)) (h : Bytes w v l) : (convert 23 9 v).run Try.prog w = .ok (.string (strB l)) w := by
  obtain ⟨a, cap, rfl, hcap, hnone, hc⟩ := h
  have el : (l.map UInt8.ofBitVec).length = l.length := by simp
  cases a with
  | none =>
    obtain rfl := hnone rfl
    obtain rfl : l = [] := List.length_eq_zero_iff.1 (by omega)
    exact run_convert_bytes_nil (P := Try.prog) w 23 5 Try.underlying23 Try.underlying5 _ _ 9 Try.underlying9
  | some ad =>
    have := run_convert_bytes_back (P := Try.prog) w 23 9 5 ad cap (l.map UInt8.ofBitVec) Try.underlying23 Try.underlying5 Try.underlying9 (fun j hj => by
      have hj' : j < l.length := by omega
      rcases hc with rfl | ⟨b, off, e, hl, hc⟩
      · simp at hj'
      · cases e
        rw [Addr.add_lit]
        have := hc j l[j] (List.getElem?_eq_getElem hj')
        rw [this, List.getElem_map]
        rfl)
    rw [el] at this
    exact this
theorem same_any (v1 v2 : Value) (l m : List (BitVec 8)) (w : World) (h1 : Bytes w v1 l) (h2 : Bytes w v2 m) : Calls Try.prog 18 #[v1, v2] w fun e w' => e = .returned (.bool (decide (l = m))) ∧ w = w' := by
  have r1 := run_strB w v1 l h1
  have r2 := run_strB w v2 m h2
  rw [← strB_eq]
  obtain ⟨a1, c1, rfl, -⟩ := h1.shape
  obtain ⟨a2, c2, rfl, -⟩ := h2.shape
  clear h1 h2
  go_enter Try.func18, Try.ntmps18
  go_wp2
  go_ret
  exact ⟨rfl, rfl⟩
end Go.Proofs.Ytclohcbhnlnddaa
