/-
  A loop over a function ('for x := range seq'), counted: the rounds are numbered, the iterator tells which values the k-th round is handed, and both sides name the blocks that they write.
  Conditions: none beyond those that each lemma states.
-/
import Derived.RangeFuncNested
import Derived.RangeFuncBound
import Derived.RangeFuncLeaves
import Derived.Deep.QuietTactic
namespace Go.Proofs.YtfbkhendpbhfcaaDoor
open Go Go.RowKit

/-- B is A with new blocks; of the blocks that were there only those of T may have turned. -/
structure Turns (T : Nat → Prop) (A B : World) : Prop where
  os : B.os = A.os
  tape : B.tape = A.tape
  output : B.output = A.output
  size : A.heap.size ≤ B.heap.size
  block : ∀ k, k < A.heap.size → ¬ T k → B.heap[k]? = A.heap[k]?

section turns
variable {T U : Nat → Prop} {A B C : World}
theorem Turns.refl (T : Nat → Prop) (A : World) : Turns T A A := ⟨rfl, rfl, rfl, Nat.le_refl _, fun _ _ _ => rfl⟩
theorem Turns.trans (h : Turns T A B) (k : Turns T B C) : Turns T A C :=
  ⟨k.os.trans h.os, k.tape.trans h.tape, k.output.trans h.output, Nat.le_trans h.size k.size, fun i hi ht => (k.block i (Nat.lt_of_lt_of_le hi h.size) ht).trans (h.block i hi ht)⟩
theorem Turns.mono (h : Turns T A B) (hu : ∀ k, k < A.heap.size → T k → U k) : Turns U A B :=
  ⟨h.os, h.tape, h.output, h.size, fun i hi hn => h.block i hi (fun ht => hn (hu i hi ht))⟩
theorem Turns.drew (h : Turns T A B) : Turns T A B.drew := ⟨h.os, h.tape, h.output, h.size, h.block⟩
theorem Turns.drewN (h : Turns T A B) (n : Nat) : Turns T A (B.drewN n) := ⟨h.os, h.tape, h.output, h.size, h.block⟩
theorem Turns.alloc (h : Turns T A B) (o : Obj) : Turns T A (B.alloc o) :=
  ⟨h.os, h.tape, h.output, by rw [World.size_alloc]; exact Nat.le_succ_of_le h.size, fun i hi ht => (Below.heap_alloc B o i (Nat.lt_of_lt_of_le hi h.size)).trans (h.block i hi ht)⟩
theorem Turns.setCell (h : Turns T A B) {p : Addr} (hp : A.heap.size ≤ p.block ∨ T p.block) (u : Value) : Turns T A (B.setCell p u) :=
  ⟨h.os, h.tape, h.output, Nat.le_trans h.size (KeepsWalks.setCell B p u).size, fun i hi ht => by
    refine (Below.heap_setCell B p u i ?_).trans (h.block i hi ht)
    rintro rfl
    rcases hp with hp | hp
    · exact absurd hi (Nat.not_lt_of_le hp)
    · exact ht hp⟩
theorem Turns.putObj (h : Turns T A B) {l : Nat} (hl : A.heap.size ≤ l ∨ T l) (o : Obj) : Turns T A (B.putObj l o) :=
  ⟨h.os, h.tape, h.output, by rw [World.putObj_size]; exact h.size, fun i hi ht => by
    refine (World.putObj_heap_other ?_).trans (h.block i hi ht)
    rintro rfl
    rcases hl with hl | hl
    · exact absurd hi (Nat.not_lt_of_le hl)
    · exact ht hl⟩
theorem Turns.of_below {n : Nat} (h : Below n A B) (hT : ∀ k, k < A.heap.size → n ≤ k → T k) : Turns T A B :=
  ⟨h.os, h.tape, h.output, h.size, fun i hi ht => h.block i (Nat.lt_of_not_le fun hn => ht (hT i hi hn))⟩
theorem Turns.of_all (h : Below A.heap.size A B) : Turns T A B := .of_below h fun _ hk hn => absurd hk (Nat.not_lt_of_le hn)
theorem Turns.below (h : Turns T A B) {n : Nat} (hn : n ≤ A.heap.size) (hT : ∀ k, k < n → ¬ T k) : Below n A B :=
  ⟨h.os, h.tape, h.output, h.size, fun i hi => h.block i (Nat.lt_of_lt_of_le hi hn) (hT i hi)⟩
theorem Turns.grown {row : Option Nat} (h : Turns T A B) (hg : B.grownBy C row) (hr : ∀ k, row = some k → A.heap.size ≤ k ∨ T k) : Turns T A C :=
  ⟨hg.os.trans h.os, hg.tape.trans h.tape, hg.output.trans h.output, Nat.le_trans h.size hg.size, fun i hi ht => by
    refine (hg.block i (Nat.lt_of_lt_of_le hi h.size) ?_).trans (h.block i hi ht)
    intro e
    rcases hr i e.symm with hl | hl
    · exact absurd hi (Nat.not_lt_of_le hl)
    · exact ht hl⟩
theorem Turns.cell (h : Turns T A B) {p : Addr} (hp : p.block < A.heap.size) (ht : ¬ T p.block) : B.cell? p = A.cell? p := World.cell?_of_block (h.block _ hp ht)
theorem Turns.frozen (h : Turns T A B) {p : Addr} (hp : p.block < A.heap.size) (ht : ¬ T p.block) : B.frozen? p = A.frozen? p := World.frozen?_of_block (h.block _ hp ht)
end turns

/-- Block b of the heap is a row of cells that may be written. -/
def Row (W : World) (b : Nat) (vs : Array Value) (t : TypeId) : Prop := W.heap[b]? = some (.cells vs t (0, 0))
section row
variable {W A B : World} {b : Nat} {vs : Array Value} {t : TypeId}
theorem Row.cell (h : Row W b vs t) {j : Nat} {v : Value} (hv : vs[j]? = some v) : W.cell? ⟨b, j, none⟩ = some v := by
  unfold World.cell?
  rw [show W.heap[(⟨b, j, none⟩ : Addr).block]? = _ from h]
  exact hv
theorem Row.free (h : Row W b vs t) (j : Nat) : W.frozen? ⟨b, j, none⟩ = false := by
  unfold World.frozen?
  rw [show W.heap[(⟨b, j, none⟩ : Addr).block]? = _ from h]
  simp
theorem Row.lt (h : Row W b vs t) : b < W.heap.size := (Array.getElem?_eq_some_iff.1 h).1
theorem Row.new (W : World) (vs : Array Value) (t : TypeId) : Row (W.alloc (.cells vs t)) W.heap.size vs t := World.alloc_heap_new W _
theorem Row.alloc (h : Row W b vs t) (o : Obj) : Row (W.alloc o) b vs t := (Below.heap_alloc W o b h.lt).trans h
theorem Row.set (h : Row W b vs t) (j : Nat) (u : Value) : Row (W.setCell ⟨b, j, none⟩ u) b (vs.setIfInBounds j u) t := by
  have hlt := h.lt
  have h' : W.heap[b] = .cells vs t (0, 0) := by
    have h2 := h
    unfold Row at h2
    rw [Array.getElem?_eq_getElem hlt] at h2
    exact Option.some.inj h2
  show (W.heap.modify b _)[b]? = _
  rw [Array.getElem?_eq_getElem (by simpa using hlt), Array.getElem_modify_self, h']
  rfl
theorem Row.other (h : Row W b vs t) {p : Addr} (hp : b ≠ p.block) (u : Value) : Row (W.setCell p u) b vs t := (Below.heap_setCell W p u b hp).trans h
theorem Row.turns {T : Nat → Prop} (h : Row A b vs t) (ht : Turns T A B) (hb : ¬ T b) : Row B b vs t := (ht.block b h.lt hb).trans h
theorem Row.same (h : Row A b vs t) (hb : B.heap[b]? = A.heap[b]?) : Row B b vs t := hb.trans h
theorem Row.drew (h : Row W b vs t) : Row W.drew b vs t := h
theorem Row.drewN (h : Row W b vs t) (n : Nat) : Row (W.drewN n) b vs t := h
end row

/-- THE CONTRACT OF AN ITERATOR'S VALUE: so many rounds, the k-th handed 'encs k'; it writes block 'own' alone (if any), and leans on the blocks S, which a round that goes on must leave as they are. -/
def Iter (F : Fence) (n : Nat) (P : Program) (g : Nat) (lb : Array Value) (encs : Nat → Array Value) (N : Nat) (own S : Nat → Prop) (w : World) : Prop :=
  ∀ (l : Nat) (J Jx : Nat → World → Prop) (W : World), Turns (fun _ => False) w W →
    (∀ k A B, J k A → Turns own A B → J k B) → (∀ k A B, Jx k A → Turns own A B → Jx k B) →
    (∀ k W1, k < N → J k W1 → YieldAt F (n - 1) P l (encs k) W1 fun e W' =>
      (e = .returned (.bool true) ∧ J (k + 1) W' ∧ ∀ b, S b → W'.heap[b]? = W1.heap[b]?) ∨ (e = .returned (.bool false) ∧ Jx k W')) →
    J 0 W →
    CallsIn F n P g (#[.func (.yield l) #[] #[]] ++ lb) W fun e W' => (∃ v, e = .returned v) ∧ (J N W' ∨ ∃ k, k < N ∧ Jx k W')

/-- How the body of the k-th round may be left. -/
def roundLeft (T : Nat → Prop) (I : Nat → World → Prop) (Ix : Code → Nat → World → Prop) (k : Nat) (W : World) : Exit → Act → World → Prop
  | .normal, _, W' => Turns T W W' ∧ I (k + 1) W'
  | .ret, _, W' => Turns T W W' ∧ Ix .ret k W'
  | .exit id, _, W' => Turns T W W' ∧ Ix (.exit id) k W'
  | .goto t, _, W' => Turns T W W' ∧ Ix (.goto t) k W'
  | .panic _, _, _ => False
  | .outgrown, _, _ => False

variable {F : Fence} {n : Nat} {P : Program}

/-- THE LOOP. The caller names the blocks T that its body writes, says by I what they hold ahead of the k-th round and by Ix what they hold where the k-th round has left by a jump. -/
theorem wpIn_range {g : Operand} {ps : Array Tmp} {assign body : Code} {Q : Exit → Act → World → Prop} {a : Act} {w : World}
    (hro : F.round = none) (h1 : 1 ≤ n) {gf : Nat} {lb : Array Value} (hg : a.eval g = .func (.func gf) #[] lb) (hFg : F.fn gf) (eg : ∀ args w, (callFunc gf args).run P w = .ok (.enter gf args) w)
    {encs : Nat → Array Value} {N : Nat} {own S : Nat → Prop} (hseq : Iter F (n - 1) P gf lb encs N own S w) (hps : ∀ k, (encs k).size = ps.size)
    (T : Nat → Prop) (hT : ∀ b, T b → b < w.heap.size) (hS : ∀ b, S b → b < w.heap.size ∧ ¬ T b) (hown : ∀ b, own b → b < w.heap.size ∧ ¬ T b)
    (I : Nat → World → Prop) (Ix : Code → Nat → World → Prop)
    (hI : ∀ k A B, I k A → (∀ b, T b → B.heap[b]? = A.heap[b]?) → I k B) (hIx : ∀ c k A B, Ix c k A → (∀ b, T b → B.heap[b]? = A.heap[b]?) → Ix c k B)
    (h0 : I 0 w) (a₁ : Nat → Act)
    (hassign : ∀ (l k : Nat) (W : World) (K : Act → World → Prop), K (a₁ k) W →
      assign.wpIn (F.inRound l) (n - 1 - 1) P (Exit.then K (fun _ _ _ => False)) { tmps := (ps.zip (encs k)).foldl (fun t (p, v) => t.setIfInBounds p v) a.tmps, defers := [] } W)
    (hbody : ∀ (l k : Nat) (W : World), k < N → Turns (fun b => T b ∨ own b) w W → I k W → body.wpIn (F.inRound l) (n - 1 - 1) P (roundLeft T I Ix k W) (a₁ k) W)
    (hdone : ∀ (D : Nat) (W : World), w.heap.size ≤ D → Turns (fun b => T b ∨ own b) w W → I N W → W.heap[D]? = some (.deferred (some [])) →
      Q .normal { a with defers := { target := .collected D, args := #[] } :: a.defers } W)
    (hstop : ∀ (D : Nat) (c : Code) (k : Nat) (W : World), w.heap.size ≤ D → k < N → Turns (fun b => T b ∨ own b) w W → Ix c k W → W.heap[D]? = some (.deferred (some [])) →
      c.wpIn F n P Q { a with defers := { target := .collected D, args := #[] } :: a.defers } W) :
    (Code.rangeFunc g ps assign body).wpIn F n P Q a w := by
  refine wpIn_rangeFunc fun fn hfn => ?_
  rw [hro]
  -- the record of the loop, in each of its states
  obtain ⟨rec, hrec⟩ : ∃ rec : LoopState → Option Code → Loop, rec = fun st pe => { state := st, pending := pe, fn, tmps := a.tmps, params := ps, assign, body, defers := w.heap.size } := ⟨_, rfl⟩
  obtain ⟨L, hL⟩ : ∃ L, L = w.heap.size + 1 := ⟨_, rfl⟩
  obtain ⟨D, hD⟩ : ∃ D, D = w.heap.size := ⟨_, rfl⟩
  obtain ⟨U, hU⟩ : ∃ U : Nat → Prop, U = fun b => T b ∨ own b := ⟨_, rfl⟩
  have hUw : ∀ b, U b → b < w.heap.size := fun b hb => by
    rw [hU] at hb
    exact hb.elim (hT b) fun h => (hown b h).1
  -- what is carried from round to round beside I
  obtain ⟨Side, hSide⟩ : ∃ Side : Loop → World → Prop, Side = fun r W => Turns U w W ∧ W.heap[L]? = some (.loop r) ∧ W.heap[D]? = some (.deferred (some [])) := ⟨_, rfl⟩
  have sideU : ∀ (V : Nat → Prop), (∀ b, V b → U b) → ∀ r A B, Side r A → Turns V A B → Side r B := fun V hV r A B hs ht => by
    rw [hSide] at hs ⊢
    obtain ⟨hs1, hs2, hs3⟩ := hs
    have hl : L < A.heap.size := (Array.getElem?_eq_some_iff.1 hs2).1
    have hd : D < A.heap.size := (Array.getElem?_eq_some_iff.1 hs3).1
    refine ⟨hs1.trans (ht.mono fun b _ h => hV b h), (ht.block L hl fun h => ?_).trans hs2, (ht.block D hd fun h => ?_).trans hs3⟩
    · have := hUw _ (hV _ h); omega
    · have := hUw _ (hV _ h); omega
  have sideL : ∀ r r' A, Side r A → Side r' (A.putObj L (.loop r')) := fun r r' A hs => by
    rw [hSide] at hs ⊢
    exact ⟨hs.1.putObj (.inl (by omega)) _, World.putObj_heap_same (Array.getElem?_eq_some_iff.1 hs.2.1).1, (World.putObj_heap_other (by omega)).trans hs.2.2⟩
  have putT : ∀ (A : World) (o : Obj) (b : Nat), T b → (A.putObj L o).heap[b]? = A.heap[b]? := fun A o b hb => World.putObj_heap_other (by have := hT b hb; omega)
  have putS : ∀ (A : World) (o : Obj) (b : Nat), S b → (A.putObj L o).heap[b]? = A.heap[b]? := fun A o b hb => World.putObj_heap_other (by have := (hS b hb).1; omega)
  have keepT : ∀ A B, Turns U w A → Turns own A B → ∀ b, T b → B.heap[b]? = A.heap[b]? := fun A B hA ht b hb =>
    ht.block b (Nat.lt_of_lt_of_le (hT b hb) hA.size) fun h => (hown b h).2 hb
  obtain ⟨W1, hW1⟩ : ∃ W1, (w.alloc (.deferred (some []))).alloc (.loop (rec .ready none)) = W1 := ⟨_, rfl⟩
  have hlaid : Turns (fun _ => False) w W1 := by rw [← hW1]; exact ((Turns.refl _ w).alloc _).alloc _
  have hS1 : Side (rec .ready none) W1 := by
    rw [hSide]
    refine ⟨hlaid.mono fun _ _ h => h.elim, ?_, ?_⟩
    · rw [← hW1, hL]; have := World.alloc_heap_new (w.alloc (.deferred (some []))) (.loop (rec .ready none)); rwa [World.size_alloc] at this
    · rw [← hW1, hD]; exact (Below.heap_alloc _ _ _ (by simp)).trans (World.alloc_heap_new w _)
  have hI1 : I 0 W1 := hI _ _ _ h0 fun b hb => hlaid.block b (hT b hb) (fun h => h)
  refine ⟨L, [{ target := .collected D, args := #[] }], W1, { target := .fn (.func gf) lb, args := #[.func (.yield L) #[] #[]] }, W1, gf, #[.func (.yield L) #[] #[]] ++ lb, W1, ?_, ?_, ?_, ?_, fun _ => h1, ?_⟩
  · rw [← hW1, hrec, hL, hD]; exact run_enterLoop_outer _ _ _ _ _
  · simp only [resolve, hg]
    simp [go_sem]
  · intro f' hf'
    simp [Target.leads] at hf'
    subst hf'
    exact hFg
  · simp [invoke, go_sem, eg]
  · refine (hseq L (fun k W => I k W ∧ Side (rec .ready none) W) (fun k W => ∃ c, Ix c k W ∧ Side (rec .done (some c)) W) W1 hlaid ?_ ?_ ?_ ⟨hI1, hS1⟩).mono ?_
    · rintro k A B ⟨hi, hs⟩ ht
      have hA : Turns U w A := by rw [hSide] at hs; exact hs.1
      exact ⟨hI _ _ _ hi (keepT A B hA ht), sideU own (fun b h => by rw [hU]; exact .inr h) _ _ _ hs ht⟩
    · rintro k A B ⟨c, hi, hs⟩ ht
      have hA : Turns U w A := by rw [hSide] at hs; exact hs.1
      exact ⟨c, hIx _ _ _ _ hi (keepT A B hA ht), sideU own (fun b h => by rw [hU]; exact .inr h) _ _ _ hs ht⟩
    · rintro k W hk ⟨hi, hs⟩
      have hl : W.heap[L]? = some (.loop (rec .ready none)) := by rw [hSide] at hs; exact hs.2.1
      have hy := run_yield (P := P) (args := encs k) hl (by rw [hrec]; exact hps k)
      rw [hrec] at hy
      refine ⟨fn, _, assign, body, hy, roundIn_of_wpIn hfn (hassign _ k W _ ⟨_, run_beginRound hl (by rw [hrec]), ?_⟩)⟩
      obtain ⟨W2, hW2⟩ : ∃ W2, W.putObj L (.loop { rec .ready none with state := .busy }) = W2 := ⟨_, rfl⟩
      rw [hW2]
      have hs2 : Side { rec .ready none with state := .busy } W2 := by rw [← hW2]; exact sideL _ _ _ hs
      have hi2 : I k W2 := by rw [← hW2]; exact hI _ _ _ hi (putT _ _)
      have hU2 : Turns U w W2 := by rw [hSide] at hs2; exact hs2.1
      refine wpIn_mono (hbody _ k W2 hk (by rw [hU] at hU2; exact hU2) hi2) ?_
      have fin : ∀ (jump : Option Code) (W3 : World), Turns T W2 W3 →
          (Instr.endRound L jump).run P W3 = .ok (.bool jump.isNone) (W3.putObj L (.loop (rec (if jump.isNone then .ready else .done) jump))) ∧
          Side (rec (if jump.isNone then .ready else .done) jump) (W3.putObj L (.loop (rec (if jump.isNone then .ready else .done) jump))) := fun jump W3 ht => by
        have hs3 := sideU T (fun b h => by rw [hU]; exact .inl h) _ _ _ hs2 ht
        have hl3 : W3.heap[L]? = some (.loop { rec .ready none with state := .busy }) := by rw [hSide] at hs3; exact hs3.2.1
        have hr := run_endRound (P := P) jump hl3
        have e : ({ rec .ready none with state := if jump.isNone then .ready else .done, pending := jump } : Loop) = rec (if jump.isNone then .ready else .done) jump := by rw [hrec]
        rw [← e]
        exact ⟨hr, sideL _ _ _ hs3⟩
      rintro e a3 W3 hp
      cases e with
      | normal =>
        obtain ⟨ht, hi3⟩ := hp
        obtain ⟨hr, hs3⟩ := fin none W3 ht
        refine ⟨_, _, hr, .inl ⟨rfl, ⟨hI _ _ _ hi3 (putT _ _), hs3⟩, fun b hb => ?_⟩⟩
        refine (putS _ _ b hb).trans ((ht.block b (Nat.lt_of_lt_of_le (hS b hb).1 hU2.size) (hS b hb).2).trans ?_)
        rw [← hW2]
        exact putS _ _ b hb
      | ret =>
        obtain ⟨ht, hi3⟩ := hp
        obtain ⟨hr, hs3⟩ := fin (some .ret) W3 ht
        exact ⟨_, _, hr, .inr ⟨rfl, .ret, hIx _ _ _ _ hi3 (putT _ _), hs3⟩⟩
      | exit id =>
        obtain ⟨ht, hi3⟩ := hp
        obtain ⟨hr, hs3⟩ := fin (some (.exit id)) W3 ht
        exact ⟨_, _, hr, .inr ⟨rfl, .exit id, hIx _ _ _ _ hi3 (putT _ _), hs3⟩⟩
      | goto t =>
        obtain ⟨ht, hi3⟩ := hp
        obtain ⟨hr, hs3⟩ := fin (some (.goto t)) W3 ht
        exact ⟨_, _, hr, .inr ⟨rfl, .goto t, hIx _ _ _ _ hi3 (putT _ _), hs3⟩⟩
      | panic ch => exact hp.elim
      | outgrown => exact hp.elim
    · have last : ∀ (st : LoopState) (pe : Option Code) (W : World), st ≠ .busy → Side (rec st pe) W →
          ∃ W', (Instr.endLoop L).run P W = .ok pe W' ∧ Side (rec .exhausted pe) W' ∧ (∀ b, T b → W'.heap[b]? = W.heap[b]?) := fun st pe W hst hs => by
        have hl : W.heap[L]? = some (.loop (rec st pe)) := by rw [hSide] at hs; exact hs.2.1
        have hr : (Instr.endLoop L).run P W = .ok pe (W.putObj L (.loop (rec .exhausted pe))) := by
          rw [hrec] at hl ⊢
          exact run_endLoop (P := P) hl hst
        exact ⟨_, hr, sideL _ _ _ hs, putT _ _⟩
      rintro e W2 ⟨⟨v, rfl⟩, ⟨hi, hs⟩ | ⟨k, hk, c, hi, hs⟩⟩
      · obtain ⟨W3, hr, hs3, hb3⟩ := last _ _ _ (by simp) hs
        rw [hSide, hU] at hs3
        exact ⟨none, _, hr, hdone D W3 (by omega) hs3.1 (hI _ _ _ hi hb3) hs3.2.2⟩
      · obtain ⟨W3, hr, hs3, hb3⟩ := last _ _ _ (by simp) hs
        rw [hSide, hU] at hs3
        exact ⟨some c, _, hr, hstop D c k W3 (by omega) hk hs3.1 (hIx _ _ _ _ hi hb3) hs3.2.2⟩
end Go.Proofs.YtfbkhendpbhfcaaDoor
