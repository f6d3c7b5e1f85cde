/- Iterators over texts: what the iterator may turn between two rounds, what a round must keep; the contract of an iterator all of whose rounds say 'go on'. -/
import Derived.RangeFuncNested
import Derived.RangeFuncBound
import Derived.RangeFuncCalls
import Derived.RangeFuncLeaves
import Derived.RangeFuncBox
import Derived.Below
import Derived.Deep.Draws
set_option linter.unusedVariables false
set_option linter.unusedSimpArgs false
namespace Go.Proofs.YtejikiebhjiocaaDoor
open Go.RowKit

/-- What an iterator over a text turns: boxes of the types E, loop records, blocks for deferred calls. -/
def itObj (E : List Nat) : Obj → Bool
  | .cells c e _ => E.contains e && c.size == 1
  | .loop _ => true
  | .deferred _ => true
  | _ => false

/-- A step of an iterator over a text: new blocks; objects of its own kind, from block B on, may have turned, but l and D. -/
structure ItStep (E : List Nat) (B : Nat) (X : Nat → Prop) (w w' : World) : Prop where
  os : w'.os = w.os
  tape : w'.tape = w.tape
  output : w'.output = w.output
  size : w.heap.size ≤ w'.heap.size
  block : ∀ (k : Nat) (o : Obj), w.heap[k]? = some o → (itObj E o = false ∨ k < B ∨ X k) → w'.heap[k]? = some o
  kind : ∀ (k : Nat) (o : Obj), w.heap[k]? = some o → itObj E o = true → ∃ o', w'.heap[k]? = some o' ∧ itObj E o' = true

/-- Nothing. -/
def nil0 : Nat → Prop := fun _ => False

section
variable {E : List Nat} {B B' : Nat} {X X' : Nat → Prop} {a b c w : World}
theorem ItStep.refl (E : List Nat) (B : Nat) (X : Nat → Prop) (w : World) : ItStep E B X w w := ⟨rfl, rfl, rfl, Nat.le_refl _, fun _ _ h _ => h, fun _ o h ho => ⟨o, h, ho⟩⟩
theorem ItStep.trans (h : ItStep E B X a b) (k : ItStep E B X b c) : ItStep E B X a c :=
  ⟨k.os.trans h.os, k.tape.trans h.tape, k.output.trans h.output, Nat.le_trans h.size k.size, fun i o hi ho => k.block i o (h.block i o hi ho) ho,
    fun i o hi ho => by obtain ⟨o', h1, h2⟩ := h.kind i o hi ho; exact k.kind i o' h1 h2⟩
theorem ItStep.mono (h : ItStep E B X a b) (hB : B' ≤ B) (hX : ∀ k, X' k → X k ∨ k < B) : ItStep E B' X' a b :=
  ⟨h.os, h.tape, h.output, h.size, fun i o hi ho => h.block i o hi (by
    rcases ho with ho | ho | ho
    · exact .inl ho
    · exact .inr (.inl (Nat.lt_of_lt_of_le ho hB))
    · rcases hX i ho with h1 | h1
      · exact .inr (.inr h1)
      · exact .inr (.inl h1)), h.kind⟩
theorem ItStep.bare (h : ItStep E B X a b) : ItStep E B nil0 a b := h.mono (Nat.le_refl _) (fun _ h => h.elim)
theorem ItStep.alloc (h : ItStep E B X a w) (o : Obj) : ItStep E B X a (w.alloc o) :=
  h.trans ⟨rfl, rfl, rfl, by simp, fun k o' hk _ => (Below.heap_alloc _ _ _ (Array.getElem?_eq_some_iff.1 hk).1).trans hk,
    fun k o' hk ho => ⟨o', (Below.heap_alloc _ _ _ (Array.getElem?_eq_some_iff.1 hk).1).trans hk, ho⟩⟩
theorem ItStep.drew (h : ItStep E B X a w) : ItStep E B X a w.drew := ⟨h.os, h.tape, h.output, h.size, h.block, h.kind⟩
theorem ItStep.drewN (h : ItStep E B X a w) (n : Nat) : ItStep E B X a (w.drewN n) := ⟨h.os, h.tape, h.output, h.size, h.block, h.kind⟩
theorem ItStep.of_below {n : Nat} (h : Below n a w) (hn : a.heap.size ≤ n) : ItStep E B X a w :=
  ⟨h.os, h.tape, h.output, h.size, fun k o hk _ => (h.block k (Nat.lt_of_lt_of_le (Array.getElem?_eq_some_iff.1 hk).1 hn)).trans hk,
    fun k o hk ho => ⟨o, (h.block k (Nat.lt_of_lt_of_le (Array.getElem?_eq_some_iff.1 hk).1 hn)).trans hk, ho⟩⟩
theorem ItStep.putObj (h : ItStep E B X a w) {r : Nat} {o : Obj} (o' : Obj) (hr : w.heap[r]? = some o) (ho : itObj E o = true) (ho' : itObj E o' = true) (hB : B ≤ r) (hX : ¬ X r) : ItStep E B X a (w.putObj r o') :=
  h.trans ⟨rfl, rfl, rfl, by simp, fun k x hk hx => by
      by_cases e : k = r
      · subst e; rw [hr] at hk; cases hk
        rcases hx with hx | hx | hx
        · rw [ho] at hx; cases hx
        · omega
        · exact absurd hx hX
      · exact (World.putObj_heap_other e).trans hk,
    fun k x hk hx => by
      by_cases e : k = r
      · subst e; exact ⟨o', World.putObj_heap_same (Array.getElem?_eq_some_iff.1 hr).1, ho'⟩
      · exact ⟨x, (World.putObj_heap_other e).trans hk, hx⟩⟩
theorem ItStep.setBox (h : ItStep E B X a w) {b t : Nat} {u : Value} (v : Value) (hb : Boxed w b t u) (hE : E.contains t = true) (hB : B ≤ b) (hX : ¬ X b) : ItStep E B X a (w.setCell ⟨b, 0, none⟩ v) :=
  h.trans ⟨rfl, rfl, rfl, (grownBy_setCell' w b v).size, fun k x hk hx => by
      by_cases e : k = b
      · subst e; rw [show w.heap[k]? = _ from hb] at hk; cases hk
        rcases hx with hx | hx | hx
        · simp [itObj] at hx hE; exact absurd hE hx
        · omega
        · exact absurd hx hX
      · exact (Below.heap_setCell _ _ _ k e).trans hk,
    fun k x hk hx => by
      by_cases e : k = b
      · subst e; exact ⟨.cells #[v] t (0, 0), hb.set v, by simpa [itObj] using hE⟩
      · exact ⟨x, (Below.heap_setCell _ _ _ k e).trans hk, hx⟩⟩
theorem ItStep.below (h : ItStep E B X a w) {n : Nat} (hn : n ≤ B) (hs : n ≤ a.heap.size) : Below n a w :=
  ⟨h.os, h.tape, h.output, h.size, fun k hk => by
    have hlt : k < a.heap.size := by omega
    rw [Array.getElem?_eq_getElem hlt]
    exact h.block k _ (Array.getElem?_eq_getElem hlt) (.inr (.inl (by omega)))⟩
/-- A block that is of no iterator's kind lies on. -/
theorem ItStep.other (h : ItStep E B X a w) {k : Nat} {o : Obj} (hk : a.heap[k]? = some o) (ho : itObj E o = false) : w.heap[k]? = some o := h.block k o hk (.inl ho)
end

/-- What a round must keep: the iterators' objects from block B on lie as they lay, but X. -/
structure ItKeeps (E : List Nat) (B : Nat) (X : Nat → Prop) (w w' : World) : Prop where
  os : w'.os = w.os
  tape : w'.tape = w.tape
  output : w'.output = w.output
  size : w.heap.size ≤ w'.heap.size
  same : ∀ (k : Nat) (o : Obj), w.heap[k]? = some o → itObj E o = true → B ≤ k → ¬ X k → w'.heap[k]? = some o

section
variable {E : List Nat} {B B' : Nat} {X X' : Nat → Prop} {a b c w : World}
theorem ItKeeps.refl (E : List Nat) (B : Nat) (X : Nat → Prop) (w : World) : ItKeeps E B X w w := ⟨rfl, rfl, rfl, Nat.le_refl _, fun _ _ h _ _ _ => h⟩
theorem ItKeeps.trans (h : ItKeeps E B X a b) (k : ItKeeps E B X b c) : ItKeeps E B X a c :=
  ⟨k.os.trans h.os, k.tape.trans h.tape, k.output.trans h.output, Nat.le_trans h.size k.size, fun i o hi ho hB hl => k.same i o (h.same i o hi ho hB hl) ho hB hl⟩
theorem ItKeeps.mono (h : ItKeeps E B X a w) (hB : B ≤ B') (hX : ∀ k, B' ≤ k → X k → X' k) : ItKeeps E B' X' a w :=
  ⟨h.os, h.tape, h.output, h.size, fun k o hk ho hB' hl => h.same k o hk ho (Nat.le_trans hB hB') (fun hx => hl (hX k hB' hx))⟩
theorem ItKeeps.alloc (h : ItKeeps E B X a w) (o : Obj) : ItKeeps E B X a (w.alloc o) :=
  h.trans ⟨rfl, rfl, rfl, by simp, fun k o' hk _ _ _ => (Below.heap_alloc _ _ _ (Array.getElem?_eq_some_iff.1 hk).1).trans hk⟩
theorem ItKeeps.drew (h : ItKeeps E B X a w) : ItKeeps E B X a w.drew := ⟨h.os, h.tape, h.output, h.size, h.same⟩
theorem ItKeeps.drewN (h : ItKeeps E B X a w) (n : Nat) : ItKeeps E B X a (w.drewN n) := ⟨h.os, h.tape, h.output, h.size, h.same⟩
theorem ItKeeps.of_below {n : Nat} (h : Below n a w) (hn : a.heap.size ≤ n) : ItKeeps E B X a w :=
  ⟨h.os, h.tape, h.output, h.size, fun k o hk _ _ _ => (h.block k (Nat.lt_of_lt_of_le (Array.getElem?_eq_some_iff.1 hk).1 hn)).trans hk⟩
theorem ItKeeps.of_grown {row : Option Nat} (h : a.grownBy w row) (hr : ∀ (k : Nat) (o : Obj), row = some k → a.heap[k]? = some o → itObj E o = true → B ≤ k → X k) : ItKeeps E B X a w :=
  ⟨h.os, h.tape, h.output, h.size, fun k o hk ho hB hl => (h.block k (Array.getElem?_eq_some_iff.1 hk).1 (fun e => hl (hr k o e.symm hk ho hB))).trans hk⟩
theorem ItKeeps.setCell (h : ItKeeps E B X a w) (p : Addr) (v : Value) (hp : ∀ o : Obj, w.heap[p.block]? = some o → itObj E o = true → B ≤ p.block → X p.block) : ItKeeps E B X a (w.setCell p v) :=
  h.trans ⟨rfl, rfl, rfl, by simp [World.setCell], fun k o hk ho hB hl => by
    by_cases e : k = p.block
    · subst e; exact absurd (hp o hk ho hB) hl
    · exact (Below.heap_setCell _ _ _ k e).trans hk⟩
theorem ItKeeps.putObj (h : ItKeeps E B X a w) (r : Nat) (o' : Obj) (hr : r < B ∨ X r) : ItKeeps E B X a (w.putObj r o') :=
  h.trans ⟨rfl, rfl, rfl, by simp, fun k o hk ho hB hl => by
    by_cases e : k = r
    · subst e; rcases hr with hr | hr
      · omega
      · exact absurd hr hl
    · exact (World.putObj_heap_other e).trans hk⟩
/-- What an iterator turned that was begun behind all that had to be kept. -/
theorem ItKeeps.of_step {X'' : Nat → Prop} (h : ItStep E B' X'' a w) (hB : a.heap.size ≤ B') : ItKeeps E B X a w :=
  ⟨h.os, h.tape, h.output, h.size, fun k o hk ho _ _ => h.block k o hk (.inr (.inl (Nat.lt_of_lt_of_le (Array.getElem?_eq_some_iff.1 hk).1 hB)))⟩
/-- A step of an iterator that was begun behind all that had to be kept. -/
theorem ItKeeps.step {X'' : Nat → Prop} (h : ItKeeps E B X a b) (k : ItStep E B' X'' b w) (hB : a.heap.size ≤ B') : ItKeeps E B X a w :=
  ⟨k.os.trans h.os, k.tape.trans h.tape, k.output.trans h.output, Nat.le_trans h.size k.size, fun i o hi ho hBi hl => k.block i o (h.same i o hi ho hBi hl) (.inr (.inl (Nat.lt_of_lt_of_le (Array.getElem?_eq_some_iff.1 hi).1 hB)))⟩
/-- What a round keeps from block B' on, behind all that had to be kept before. -/
theorem ItKeeps.keep {X'' : Nat → Prop} (h : ItKeeps E B X a b) (k : ItKeeps E B' X'' b w) (hB : B' ≤ B) (hX : ∀ i, B ≤ i → X'' i → X i) : ItKeeps E B X a w := h.trans (k.mono hB hX)
theorem ItKeeps.box (h : ItKeeps E B X a w) {b t : Nat} {v : Value} (hb : Boxed a b t v) (hE : E.contains t = true) (hB : B ≤ b) (hl : ¬ X b) : Boxed w b t v :=
  h.same b _ hb (by simpa [itObj] using hE) hB hl
end

theorem roundIn_any {m m' : Nat} {P : Program} {l : Nat} {f : FuncId} {tmps : Array Value} {assign body : Code} {w : World} {R : Ending → World → Prop}
    (h : RoundIn Fence.wide m P l f tmps assign body w R) : RoundIn Fence.wide m' P l f tmps assign body w R :=
  ⟨h.1, fun c cs _ => h.2 c cs (room_wide _)⟩
theorem roundIn_round {m m' : Nat} {P : Program} {l l' : Nat} {f : FuncId} {tmps : Array Value} {assign body : Code} {w : World} {R : Ending → World → Prop}
    (h : RoundIn Fence.wide m P l f tmps assign body w R) : RoundIn (Fence.wide.inRound l') m' P l f tmps assign body w R :=
  ⟨trivial, fun c cs _ => h.2 c cs (room_wide _)⟩

/-- The loop's record and the block for deferred calls. -/
def recs (l D : Nat) : Nat → Prop := fun k => k = l ∨ k = D

/-- **The contract of an iterator value (function g, captured lb) that hands out the rows xs of arguments, in their order, to rounds that all say 'go on'.** Pre: what must lie in memory, of the loop's record l and its block D. G: what the caller's invariant tells of the world. -/
def IterAll (E : List Nat) (B : Nat) (P : Program) (g : Nat) (lb : Array Value) (xs : List (Array Value)) (Pre : Nat → Nat → World → Prop) (G : World → Prop) : Prop :=
  ∀ (l D : Nat) (J : Nat → World → Prop) (W : World), Pre l D W → (∀ i W1, J i W1 → G W1) → (∀ i W1 W2, J i W1 → ItStep E B (recs l D) W1 W2 → J i W2) →
    (∀ i W1 (h : i < xs.length), J i W1 → YieldAt Fence.wide 0 P l xs[i] W1 fun e W2 => e = .returned (.bool true) ∧ J (i + 1) W2 ∧ ItKeeps E B (fun k => k = l) W1 W2) →
    J 0 W → Calls P g (#[.func (.yield l) #[] #[]] ++ lb) W fun e W2 => (∃ v, e = .returned v) ∧ J xs.length W2

/-- How a loop's body must be left. -/
def iterPost (E : List Nat) (B : Nat) (I : World → Prop) (W : World) : Exit → Act → World → Prop
  | .normal, _, W' => ItKeeps E B nil0 W W' ∧ I W'
  | _, _, _ => False

variable {P : Program} {n : Nat}

/-- One round, whatever the record: 'assign', 'body' at a record that is ready. -/
theorem iter_round {E : List Nat} {B l D : Nat} {a : Act} {ps : Array Tmp} {assign body : Code} {fn : FuncId} {m : Nat} (rec : LoopState → Option Code → Loop)
    (hrec : rec = fun st pe => { state := st, pending := pe, fn, tmps := a.tmps, params := ps, assign, body, defers := D })
    (I : Nat → World → Prop) (hI : ∀ i W1 W2, I i W1 → ItStep E B nil0 W1 W2 → I i W2) (A : Nat → Act → World → Prop) (hA : ∀ i a' W1 W2, A i a' W1 → ItStep E B nil0 W1 W2 → A i a' W2)
    (hB : B ≤ l) (x : Array Value) (hps : x.size = ps.size) (i : Nat) (W : World) (hi : I i W) (hl : W.heap[l]? = some (.loop (rec .ready none)))
    (hassign : ∀ (K : Act → World → Prop), (∀ a' W', ItKeeps E B nil0 W W' → I i W' → A i a' W' → K a' W') →
      assign.wpIn (Fence.wide.inRound l) m P (Exit.then K (fun _ _ _ => False)) { tmps := (ps.zip x).foldl (fun t (p, v) => t.setIfInBounds p v) a.tmps, defers := [] } W)
    (hbody : ∀ (a' : Act) (W : World), l < W.heap.size → (∃ r, W.heap[l]? = some (.loop r)) → I i W → A i a' W → body.wpIn (Fence.wide.inRound l) m P (iterPost E B (I (i + 1)) W) a' W) :
    YieldAt Fence.wide m P l x W fun e W2 => e = .returned (.bool true) ∧ I (i + 1) W2 ∧ W2.heap[l]? = some (.loop (rec .ready none)) ∧ ItKeeps E B (fun k => k = l) W W2 := by
  have hy := run_yield (P := P) (args := x) hl (by rw [hrec]; exact hps)
  rw [hrec] at hy
  refine ⟨fn, _, assign, body, hy, roundIn_of_wpIn trivial (hassign _ ?_)⟩
  clear hy
  intro a' Wa hk ha hax
  have hla := hk.same _ _ hl (by simp [itObj]) hB (fun h => h)
  have hlt : l < Wa.heap.size := (Array.getElem?_eq_some_iff.1 hla).1
  refine ⟨_, run_beginRound hla (by rw [hrec]), ?_⟩
  have hl2 : (Wa.putObj l (.loop { rec .ready none with state := .busy })).heap[l]? = some (.loop { rec .ready none with state := .busy }) := World.putObj_heap_same hlt
  have hst : ItStep E B nil0 Wa (Wa.putObj l (.loop { rec .ready none with state := .busy })) := (ItStep.refl _ _ _ _).putObj _ hla (by simp [itObj]) (by simp [itObj]) hB (fun h => h)
  refine wpIn_mono (hbody a' _ (by simpa using hlt) ⟨_, hl2⟩ (hI _ _ _ ha hst) (hA _ _ _ _ hax hst)) ?_
  rintro e a3 W3 hp
  cases e with
  | normal =>
    obtain ⟨hk3, hi3⟩ := hp
    have hl3 := hk3.same _ _ hl2 (by simp [itObj]) hB (fun h => h)
    have hend := run_endRound (P := P) none hl3
    rw [hrec] at hend
    have hst3 : ItStep E B nil0 W3 (W3.putObj l (.loop (rec .ready none))) := (ItStep.refl _ _ _ _).putObj _ hl3 (by simp [itObj]) (by simp [itObj]) hB (fun h => h)
    rw [hrec] at hst3
    refine ⟨_, _, hend, rfl, hI _ _ _ hi3 hst3, ?_, ?_⟩
    · rw [hrec]; exact World.putObj_heap_same (Array.getElem?_eq_some_iff.1 hl3).1
    · have k1 : ItKeeps E B (fun k => k = l) W Wa := hk.mono (Nat.le_refl _) (fun _ _ h => h.elim)
      have k2 : ItKeeps E B (fun k => k = l) (Wa.putObj l (.loop { rec .ready none with state := .busy })) W3 := hk3.mono (Nat.le_refl _) (fun _ _ h => h.elim)
      exact ((k1.putObj l _ (.inr rfl)).trans k2).putObj l _ (.inr rfl)
  | ret => exact hp.elim
  | exit id => exact hp.elim
  | goto t => exact hp.elim
  | panic ch => exact hp.elim
  | outgrown => exact hp.elim

/-- **'for .. := range g' at a function's own level, all rounds going on.** -/
theorem wpIn_iter {g : Operand} {ps : Array Tmp} {assign body : Code} {Q : Exit → Act → World → Prop} {a : Act} {w : World}
    {gf : Nat} {lb : Array Value} (hg : a.eval g = .func (.func gf) #[] lb) (eg : ∀ args w, (callFunc gf args).run P w = .ok (.enter gf args) w)
    {E : List Nat} {B : Nat} {xs : List (Array Value)} {Pre : Nat → Nat → World → Prop} {G : World → Prop} (hseq : IterAll E B P gf lb xs Pre G) (hB : B ≤ w.heap.size) (hps : ∀ x ∈ xs, x.size = ps.size)
    (hPre : ∀ o1 o2, Pre (w.heap.size + 1) w.heap.size ((w.alloc o1).alloc o2))
    (I : Nat → World → Prop) (hG : ∀ i W, I i W → G W) (hI : ∀ i W1 W2, I i W1 → ItStep E B nil0 W1 W2 → I i W2) (h0 : I 0 w) (A : Nat → Act → World → Prop) (hA : ∀ i a' W1 W2, A i a' W1 → ItStep E B nil0 W1 W2 → A i a' W2)
    (hassign : ∀ (i : Nat) (h : i < xs.length) (W : World) (K : Act → World → Prop), I i W → (∀ a' W', ItKeeps E B nil0 W W' → I i W' → A i a' W' → K a' W') →
      assign.wpIn (Fence.wide.inRound (w.heap.size + 1)) 0 P (Exit.then K (fun _ _ _ => False)) { tmps := (ps.zip xs[i]).foldl (fun t (p, v) => t.setIfInBounds p v) a.tmps, defers := [] } W)
    (hbody : ∀ (i : Nat) (h : i < xs.length) (a' : Act) (W : World), w.heap.size + 1 < W.heap.size → (∃ r, W.heap[w.heap.size + 1]? = some (.loop r)) → I i W → A i a' W → body.wpIn (Fence.wide.inRound (w.heap.size + 1)) 0 P (iterPost E B (I (i + 1)) W) a' W)
    (hdone : ∀ (W : World), w.heap.size < W.heap.size → I xs.length W → W.heap[w.heap.size]? = some (.deferred (some [])) → Q .normal { a with defers := { target := .collected w.heap.size, args := #[] } :: a.defers } W) :
    (Code.rangeFunc g ps assign body).wpIn Fence.wide n P Q a w := by
  refine wpIn_rangeFunc ?_
  intro fn hfn
  obtain ⟨rec, hrec⟩ : ∃ rec : LoopState → Option Code → Loop, rec = fun st pe => { state := st, pending := pe, fn, tmps := a.tmps, params := ps, assign, body, defers := w.heap.size } := ⟨_, rfl⟩
  obtain ⟨W1, hW1⟩ : ∃ W1, (w.alloc (.deferred (some []))).alloc (.loop (rec .ready none)) = W1 := ⟨_, rfl⟩
  have hL1 : W1.heap[w.heap.size + 1]? = some (.loop (rec .ready none)) := by
    rw [← hW1]; have := World.alloc_heap_new (w.alloc (.deferred (some []))) (.loop (rec .ready none)); rwa [World.size_alloc] at this
  have hK1 : W1.heap[w.heap.size]? = some (.deferred (some [])) := by
    rw [← hW1]; exact (Below.heap_alloc _ _ _ (by simp)).trans (World.alloc_heap_new w _)
  have hI1 : I 0 W1 := by rw [← hW1]; exact hI _ _ _ h0 (((ItStep.refl _ _ _ _).alloc _).alloc _)
  have hP1 : Pre (w.heap.size + 1) w.heap.size W1 := by rw [← hW1]; exact hPre _ _
  refine ⟨w.heap.size + 1, [{ target := .collected w.heap.size, args := #[] }], W1, { target := .fn (.func gf) lb, args := #[.func (.yield (w.heap.size + 1)) #[] #[]] }, W1, gf,
    #[.func (.yield (w.heap.size + 1)) #[] #[]] ++ lb, W1, ?_, ?_, ?_, ?_, (fun h => by cases h), ?_⟩
  · rw [← hW1, hrec]; exact run_enterLoop_outer _ _ _ _ _
  · simp only [resolve, hg]
    simp [go_sem]
  · intro f' hf'; trivial
  · simp [invoke, go_sem, eg]
  · refine callsIn_wide.2 ((hseq (w.heap.size + 1) w.heap.size
      (fun i W => I i W ∧ W.heap[w.heap.size + 1]? = some (.loop (rec .ready none)) ∧ W.heap[w.heap.size]? = some (.deferred (some [])))
      W1 hP1 (fun i A hs => hG i A hs.1) (fun i A B hs hst => ⟨hI _ _ _ hs.1 hst.bare, hst.block _ _ hs.2.1 (.inr (.inr (.inl rfl))), hst.block _ _ hs.2.2 (.inr (.inr (.inr rfl)))⟩)
      ?_ ⟨hI1, hL1, hK1⟩).mono ?_)
    · rintro i W h ⟨hi, hl, hk⟩
      obtain ⟨fn', t', as', bd', hy, hR⟩ := iter_round (P := P) (m := 0) (E := E) (B := B) (l := w.heap.size + 1) (D := w.heap.size) (a := a) (ps := ps) (assign := assign) (body := body) (fn := fn) rec hrec I hI A hA (by omega) xs[i] (hps _ (List.getElem_mem h)) i W hi hl
        (fun K hK => hassign i h W K hi hK) (fun a' W hlt hr hi ha => hbody i h a' W hlt hr hi ha)
      refine ⟨fn', t', as', bd', hy, hR.mono ?_⟩
      rintro e W2 ⟨rfl, h1, h2, h3⟩
      exact ⟨rfl, ⟨h1, h2, h3.same _ _ hk (by simp [itObj]) hB (by simp)⟩, h3⟩
    · rintro e W2 ⟨⟨v, rfl⟩, hi, hl, hk⟩
      refine ⟨none, _, by have := run_endLoop (P := P) hl (by rw [hrec]; simp); rw [hrec] at this; exact this, hdone _ ?_ ?_ ?_⟩
      · have := (Array.getElem?_eq_some_iff.1 hk).1; simpa using this
      · exact hI _ _ _ hi ((ItStep.refl _ _ _ _).putObj _ hl (by simp [itObj]) (by simp [itObj]) (by omega) (fun h => h))
      · exact (World.putObj_heap_other (by omega)).trans hk

/-- **'for .. := range g' in a round of loop l₀, all rounds going on.** -/
theorem wpIn_iter_in {l₀ : Nat} {r₀ : Loop} {g : Operand} {ps : Array Tmp} {assign body : Code} {Q : Exit → Act → World → Prop} {a : Act} {w : World} (hl₀ : w.heap[l₀]? = some (.loop r₀))
    {gf : Nat} {lb : Array Value} (hg : a.eval g = .func (.func gf) #[] lb) (eg : ∀ args w, (callFunc gf args).run P w = .ok (.enter gf args) w)
    {E : List Nat} {B : Nat} {xs : List (Array Value)} {Pre : Nat → Nat → World → Prop} {G : World → Prop} (hseq : IterAll E B P gf lb xs Pre G) (hB : B ≤ w.heap.size) (hps : ∀ x ∈ xs, x.size = ps.size)
    (hPre : ∀ o1, Pre w.heap.size w.heap.size (w.alloc o1))
    (I : Nat → World → Prop) (hG : ∀ i W, I i W → G W) (hI : ∀ i W1 W2, I i W1 → ItStep E B nil0 W1 W2 → I i W2) (h0 : I 0 w) (A : Nat → Act → World → Prop) (hA : ∀ i a' W1 W2, A i a' W1 → ItStep E B nil0 W1 W2 → A i a' W2)
    (hassign : ∀ (i : Nat) (h : i < xs.length) (W : World) (K : Act → World → Prop), I i W → (∀ a' W', ItKeeps E B nil0 W W' → I i W' → A i a' W' → K a' W') →
      assign.wpIn (Fence.wide.inRound w.heap.size) 0 P (Exit.then K (fun _ _ _ => False)) { tmps := (ps.zip xs[i]).foldl (fun t (p, v) => t.setIfInBounds p v) a.tmps, defers := [] } W)
    (hbody : ∀ (i : Nat) (h : i < xs.length) (a' : Act) (W : World), w.heap.size < W.heap.size → (∃ r, W.heap[w.heap.size]? = some (.loop r)) → I i W → A i a' W → body.wpIn (Fence.wide.inRound w.heap.size) 0 P (iterPost E B (I (i + 1)) W) a' W)
    (hdone : ∀ (W : World), w.heap.size < W.heap.size → I xs.length W → Q .normal a W) :
    (Code.rangeFunc g ps assign body).wpIn (Fence.wide.inRound l₀) n P Q a w := by
  refine wpIn_rangeFunc ?_
  intro fn hfn
  obtain ⟨rec, hrec⟩ : ∃ rec : LoopState → Option Code → Loop, rec = fun st pe => { state := st, pending := pe, fn, tmps := a.tmps, params := ps, assign, body, defers := r₀.defers } := ⟨_, rfl⟩
  obtain ⟨W1, hW1⟩ : ∃ W1, w.alloc (.loop (rec .ready none)) = W1 := ⟨_, rfl⟩
  have hL1 : W1.heap[w.heap.size]? = some (.loop (rec .ready none)) := by rw [← hW1]; exact World.alloc_heap_new w _
  have hI1 : I 0 W1 := by rw [← hW1]; exact hI _ _ _ h0 ((ItStep.refl _ _ _ _).alloc _)
  have hP1 : Pre w.heap.size w.heap.size W1 := by rw [← hW1]; exact hPre _
  refine ⟨w.heap.size, [], W1, { target := .fn (.func gf) lb, args := #[.func (.yield w.heap.size) #[] #[]] }, W1, gf,
    #[.func (.yield w.heap.size) #[] #[]] ++ lb, W1, ?_, ?_, ?_, ?_, (fun h => by cases h), ?_⟩
  · rw [← hW1, hrec]; exact run_enterLoop_inner hl₀ _ _ _ _ _
  · simp only [resolve, hg]
    simp [go_sem]
  · intro f' hf'; trivial
  · simp [invoke, go_sem, eg]
  · refine ((callsIn_wide (n := n - 1)).2 ((hseq w.heap.size w.heap.size
      (fun i W => I i W ∧ W.heap[w.heap.size]? = some (.loop (rec .ready none)))
      W1 hP1 (fun i A hs => hG i A hs.1) (fun i A B hs hst => ⟨hI _ _ _ hs.1 hst.bare, hst.block _ _ hs.2 (.inr (.inr (.inl rfl)))⟩)
      ?_ ⟨hI1, hL1⟩).mono ?_) : CallsIn Fence.wide (n - 1) P gf _ _ _).inRound l₀
    · rintro i W h ⟨hi, hl⟩
      obtain ⟨fn', t', as', bd', hy, hR⟩ := iter_round (P := P) (m := 0) (E := E) (B := B) (l := w.heap.size) (D := r₀.defers) (a := a) (ps := ps) (assign := assign) (body := body) (fn := fn) rec hrec I hI A hA hB xs[i] (hps _ (List.getElem_mem h)) i W hi hl
        (fun K hK => hassign i h W K hi hK) (fun a' W hlt hr hi ha => hbody i h a' W hlt hr hi ha)
      refine ⟨fn', t', as', bd', hy, hR.mono ?_⟩
      rintro e W2 ⟨rfl, h1, h2, h3⟩
      exact ⟨rfl, ⟨h1, h2⟩, h3⟩
    · rintro e W2 ⟨⟨v, rfl⟩, hi, hl⟩
      refine ⟨none, _, by have := run_endLoop (P := P) hl (by rw [hrec]; simp); rw [hrec] at this; exact this, hdone _ ?_ ?_⟩
      · have := (Array.getElem?_eq_some_iff.1 hl).1; simpa using this
      · exact hI _ _ _ hi ((ItStep.refl _ _ _ _).putObj _ hl (by simp [itObj]) (by simp [itObj]) hB (fun h => h))

end Go.Proofs.YtejikiebhjiocaaDoor
