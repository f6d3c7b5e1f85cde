/- (*ucd.Tables).parts: what stands at its end. -/
import Derived.Test.YtejikiebhjiocaaDoorRg
set_option linter.unusedVariables false
set_option linter.unusedSimpArgs false
namespace Go.Proofs.YtejikiebhjiocaaDoor
open Go.RowKit Go.Shelf

/-- All but two blocks lie as they lay. -/
structure Two (x y : Nat) (w w' : World) : Prop where
  os : w'.os = w.os
  tape : w'.tape = w.tape
  output : w'.output = w.output
  size : w.heap.size ≤ w'.heap.size
  block : ∀ k, k < w.heap.size → k ≠ x → k ≠ y → w'.heap[k]? = w.heap[k]?
theorem Two.refl (x y : Nat) (w : World) : Two x y w w := ⟨rfl, rfl, rfl, Nat.le_refl _, fun _ _ _ _ => rfl⟩
theorem Two.step {E : List Nat} {X : Nat → Prop} {x y : Nat} {w a b : World} (h : Two x y w a) (st : ItStep E w.heap.size X a b) : Two x y w b :=
  ⟨st.os.trans h.os, st.tape.trans h.tape, st.output.trans h.output, Nat.le_trans h.size st.size, fun k hk hx hy => ((st.below (n := w.heap.size) (Nat.le_refl _) h.size).block k hk).trans (h.block k hk hx hy)⟩
theorem Chg.two {p mj ms x y : Nat} {w a b : World} (h : Chg p mj ms w a) (k : Two x y a b) (hx : w.heap.size ≤ x) (hy : w.heap.size ≤ y) : Chg p mj ms w b :=
  ⟨k.os.trans h.os, k.tape.trans h.tape, k.output.trans h.output, Nat.le_trans h.size k.size, fun i hi a b c => (k.block i (Nat.lt_of_lt_of_le hi h.size) (by omega) (by omega)).trans (h.block i hi a b c)⟩

/-- What parts leaves. -/
def PartsPost (w w' : World) (p mj ms : Nat) (cs0 : Array Value) (st : PSt) (es2 : List (Int × Int)) : Prop :=
  Chg p mj ms w w' ∧ ∃ (pp ps : Nat) (cs : Array Value) (vp : Value), w'.heap[p]? = some (.cells cs 47 (0, 0)) ∧ cs.size = 10 ∧ cs[0]? = cs0[0]? ∧ cs[1]? = some (.pointer (some ⟨pp, 0, none⟩)) ∧ cs[2]? = some (.pointer (some ⟨ps, 0, none⟩)) ∧
    cs[3]? = some vp ∧ cs[4]? = some (.map (some mj)) ∧ cs[5]? = some (.map (some ms)) ∧ TableIs w' pp (fun x => lastV st.es (x : Int)) ∧ TableIs w' ps (fun x => lastV es2 (x : Int)) ∧
    w'.ownsRow (w.heap.size + 5) 77 2 vp st.pairs.length (flatP st.pairs) ∧ IsMap Tryd.prog 77 w' mj (SjOf st.jl) ∧ IsMap Tryd.prog 21 w' ms (SsOf st.sl)

theorem setCell_rest (w : World) (a : Addr) (v : Value) : (w.setCell a v).os = w.os ∧ (w.setCell a v).tape = w.tape ∧ (w.setCell a v).output = w.output := ⟨rfl, rfl, rfl⟩
theorem putObj_rest (w : World) (b : Nat) (o : Obj) : (w.putObj b o).os = w.os ∧ (w.putObj b o).tape = w.tape ∧ (w.putObj b o).output = w.output := ⟨rfl, rfl, rfl⟩
theorem drew_rest (w : World) : w.drew.os = w.os ∧ w.drew.tape = w.tape ∧ w.drew.output = w.output := ⟨rfl, rfl, rfl⟩

set_option maxHeartbeats 1000000 in
theorem parts_end {w R W2 W5 w7 w8 W9 V : World} {p mj ms pp ps D1 D2 : Nat} {cs0 : Array Value} {v7 v8 one : Value} {pos : Int} {st : PSt} {es2 : List (Int × Int)}
    (H2 : PM w R W2 p mj ms w.heap.size cs0 one pos st.pairs st.es st.jl st.sl) (hT : Two (w.heap.size + 2) (w.heap.size + 3) W2 W5) (hD1 : W2.heap[D1]? = some (.deferred (some []))) (hD2 : W5.heap[D2]? = some (.deferred (some [])))
    (h1 : D1 = w.heap.size + 5) (h2 : D2 = W2.heap.size) (hbe7 : Below W5.drew.heap.size W5.drew w7) (hbe8 : Below w7.heap.size w7 w8) (t7 : TableIs w7 pp (fun x => lastV st.es (x : Int))) (t8 : TableIs w8 ps (fun x => lastV es2 (x : Int)))
    (hW9 : W9 = (w8.setCell ⟨p, 1, none⟩ (.pointer (some ⟨pp, 0, none⟩))).setCell ⟨p, 2, none⟩ (.pointer (some ⟨ps, 0, none⟩))) (hV : V = ((W9.setCell ⟨p, 7, none⟩ v7).setCell ⟨p, 8, none⟩ v8).drew) :
    V.heap[D2]? = some (.deferred (some [])) ∧ ∀ o2, (V.putObj D2 o2).heap[D1]? = some (.deferred (some [])) ∧ ∀ o1, PartsPost w ((V.putObj D2 o2).putObj D1 o1) p mj ms cs0 st es2 := by
  obtain ⟨cs, vp, c9, u1, u2, u3, u4, u5, u6, u7, u8⟩ := H2.tb
  have hp := H2.pn; have hj := H2.jn; have hs := H2.sn; have hsz := H2.sz
  have hlD1 : D1 < W2.heap.size := (Array.getElem?_eq_some_iff.1 hD1).1
  have hlD2 : D2 < W5.heap.size := (Array.getElem?_eq_some_iff.1 hD2).1
  have hb7 : Below W5.heap.size W5 w7 := ⟨hbe7.os, hbe7.tape, hbe7.output, hbe7.size, hbe7.block⟩
  have hb8 : Below W5.heap.size W5 w8 := hb7.trans (hbe8.mono hb7.size)
  have s8 : W2.heap.size ≤ w8.heap.size := Nat.le_trans hT.size hb8.size
  have e9 : ∀ k, k ≠ p → V.heap[k]? = w8.heap[k]? := fun k hk => by
    rw [hV, hW9]
    exact (Below.heap_setCell _ _ _ _ hk).trans ((Below.heap_setCell _ _ _ _ hk).trans ((Below.heap_setCell _ _ _ _ hk).trans (Below.heap_setCell _ _ _ _ hk)))
  have sV : V.heap.size = w8.heap.size := by rw [hV, hW9]; simp [World.setCell, World.drew]
  have hV2 : V.heap[D2]? = some (.deferred (some [])) := (e9 D2 (by omega)).trans ((hb8.block D2 hlD2).trans hD2)
  have hD15 : W5.heap[D1]? = some (.deferred (some [])) := (hT.block D1 hlD1 (by omega) (by omega)).trans hD1
  have hV1 : V.heap[D1]? = some (.deferred (some [])) := (e9 D1 (by omega)).trans ((hb8.block D1 (by omega)).trans hD15)
  refine ⟨hV2, fun o2 => ⟨(World.putObj_heap_other (by omega)).trans hV1, fun o1 => ?_⟩⟩
  obtain ⟨X, hX⟩ : ∃ X, X = (V.putObj D2 o2).putObj D1 o1 := ⟨_, rfl⟩
  have eX : ∀ k, k ≠ D1 → k ≠ D2 → X.heap[k]? = V.heap[k]? := fun k a b => by rw [hX]; exact (World.putObj_heap_other a).trans (World.putObj_heap_other b)
  have e2 : ∀ k, k < W2.heap.size → k ≠ w.heap.size + 2 → k ≠ w.heap.size + 3 → k ≠ p → k ≠ D1 → X.heap[k]? = W2.heap[k]? := fun k hk a b c d =>
    (eX k d (by omega)).trans ((e9 k c).trans ((hb8.block k (Nat.lt_of_lt_of_le hk hT.size)).trans (hT.block k hk a b)))
  have hp5 : W5.heap[p]? = some (.cells cs 47 (0, 0)) := (hT.block p (by omega) (by omega) (by omega)).trans u1
  have hp8 : w8.heap[p]? = some (.cells cs 47 (0, 0)) := (hb8.block p (Array.getElem?_eq_some_iff.1 hp5).1).trans hp5
  have hpX : X.heap[p]? = some (.cells ((((cs.setIfInBounds 1 (.pointer (some ⟨pp, 0, none⟩))).setIfInBounds 2 (.pointer (some ⟨ps, 0, none⟩))).setIfInBounds 7 v7).setIfInBounds 8 v8) 47 (0, 0)) := by
    rw [eX p (by omega) (by omega), hV, hW9]
    exact heap_setCell_same _ _ _ _ _ _ (heap_setCell_same _ _ _ _ _ _ (heap_setCell_same _ _ _ _ _ _ (heap_setCell_same _ _ _ _ _ _ hp8)))
  have tab : ∀ {W : World} {q : Nat} {g : Nat → Int}, TableIs W q g → Below W.heap.size W w8 → TableIs X q g := fun {W q g} ht hb => by
    refine (ht.below hb (Nat.le_refl _)).of_other fun k c t hk htt => ?_
    have hkp : k ≠ p := fun e => by subst e; rw [hp8] at hk; cases hk; rcases htt with h | h <;> cases h
    have hk1 : k ≠ D1 := fun e => by subst e; rw [← e9 _ hkp, hV1] at hk; cases hk
    have hk2 : k ≠ D2 := fun e => by subst e; rw [← e9 _ hkp, hV2] at hk; cases hk
    exact (eX k hk1 hk2).trans ((e9 k hkp).trans hk)
  rw [← hX]
  refine ⟨⟨?_, ?_, ?_, ?_, fun k hk a b c => ?_⟩, pp, ps, _, vp, hpX, by simpa using u2, ?_, ?_, ?_, ?_, ?_, ?_, tab t7 hbe8, tab t8 ⟨rfl, rfl, rfl, Nat.le_refl _, fun _ _ => rfl⟩, ?_, ?_, ?_⟩
  · rw [hX, (putObj_rest _ _ _).1, (putObj_rest _ _ _).1, hV, (drew_rest _).1, (setCell_rest _ _ _).1, (setCell_rest _ _ _).1, hW9, (setCell_rest _ _ _).1, (setCell_rest _ _ _).1]; exact hb8.os.trans (hT.os.trans H2.chg.os)
  · rw [hX, (putObj_rest _ _ _).2.1, (putObj_rest _ _ _).2.1, hV, (drew_rest _).2.1, (setCell_rest _ _ _).2.1, (setCell_rest _ _ _).2.1, hW9, (setCell_rest _ _ _).2.1, (setCell_rest _ _ _).2.1]; exact hb8.tape.trans (hT.tape.trans H2.chg.tape)
  · rw [hX, (putObj_rest _ _ _).2.2, (putObj_rest _ _ _).2.2, hV, (drew_rest _).2.2, (setCell_rest _ _ _).2.2, (setCell_rest _ _ _).2.2, hW9, (setCell_rest _ _ _).2.2, (setCell_rest _ _ _).2.2]; exact hb8.output.trans (hT.output.trans H2.chg.output)
  · have : X.heap.size = V.heap.size := by rw [hX]; simp [World.putObj]
    have := H2.chg.size
    omega
  · exact (e2 k (by omega) (by omega) (by omega) a (by omega)).trans (H2.chg.block k hk a b c)
  · simp only [Array.getElem?_setIfInBounds, Nat.reduceEqDiff, if_false]; exact u7
  · simp only [Array.getElem?_setIfInBounds, Nat.reduceEqDiff, if_false, if_true, Array.size_setIfInBounds]; rw [if_pos (by omega)]
  · simp only [Array.getElem?_setIfInBounds, Nat.reduceEqDiff, if_false, if_true, Array.size_setIfInBounds]; rw [if_pos (by omega)]
  · simp only [Array.getElem?_setIfInBounds, Nat.reduceEqDiff, if_false]; exact u3
  · simp only [Array.getElem?_setIfInBounds, Nat.reduceEqDiff, if_false]; exact u4
  · simp only [Array.getElem?_setIfInBounds, Nat.reduceEqDiff, if_false]; exact u5
  · refine ⟨u8.1, u8.2.imp id fun ⟨g, cap, cur, k1, k2, k3, k4⟩ => ⟨g, cap, cur, k1, k2, ?_, k4⟩⟩
    have hg := (Array.getElem?_eq_some_iff.1 k3).1
    exact (e2 g hg (by omega) (by omega) (by omega) (fun e => by subst e; rw [hD1] at k3; cases k3)).trans k3
  · exact H2.ij.of_heap (e2 mj (by omega) (by omega) (by omega) (Ne.symm H2.pj) (by omega))
  · exact H2.is.of_heap (e2 ms (by omega) (by omega) (by omega) (Ne.symm H2.pq) (by omega))
end Go.Proofs.YtejikiebhjiocaaDoor
