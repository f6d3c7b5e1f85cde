/- (*ucd.Tables).parts: the memory, step by step. -/
import Derived.Test.YtejikiebhjiocaaDoorPa
set_option linter.unusedVariables false
set_option linter.unusedSimpArgs false
namespace Go.Proofs.YtejikiebhjiocaaDoor
open Go.RowKit Go.Shelf

/-- All but three blocks lie as they lay. -/
structure Chg (p mj ms : Nat) (w w' : World) : Prop where
  os : w'.os = w.os
  tape : w'.tape = w.tape
  output : w'.output = w.output
  size : w.heap.size ≤ w'.heap.size
  block : ∀ k, k < w.heap.size → k ≠ p → k ≠ mj → k ≠ ms → w'.heap[k]? = w.heap[k]?

structure PM (w R W : World) (p mj ms n : Nat) (cs0 : Array Value) (one : Value) (pos : Int) (pairs es : List (Int × Int)) (jl : List ((Int × Int) × Int)) (sl : List Int) : Prop where
  b1 : Boxed W n 23 (.pointer (some ⟨p, 0, none⟩))
  l : ∃ lv, Boxed W (n + 1) 69 lv ∧ W.ownsRow (n + 5) 75 2 lv es.length (flatE es)
  lo : Boxed W (n + 2) 69 one
  ps : Boxed W (n + 3) 21 (.int .i32 pos)
  tb : ∃ (cs : Array Value) (vp : Value) (c9 : Int), W.heap[p]? = some (.cells cs 47 (0, 0)) ∧ cs.size = 10 ∧ cs[3]? = some vp ∧ cs[4]? = some (.map (some mj)) ∧ cs[5]? = some (.map (some ms)) ∧ cs[9]? = some (.int .i64 c9) ∧
    cs[0]? = cs0[0]? ∧ W.ownsRow (n + 5) 77 2 vp pairs.length (flatP pairs)
  ij : IsMap Tryd.prog 77 W mj (SjOf jl)
  is : IsMap Tryd.prog 21 W ms (SsOf sl)
  chg : Chg p mj ms w W
  sz : n + 5 ≤ W.heap.size
  keep : ItKeeps itE (n + 5) nil0 R W
  n0 : w.heap.size = n
  pn : p < n
  jn : mj < n
  sn : ms < n
  pj : p ≠ mj
  pq : p ≠ ms
  js : mj ≠ ms

section
variable {w R W W' : World} {p mj ms n : Nat} {cs0 : Array Value} {one : Value} {pos : Int} {pairs es : List (Int × Int)} {jl : List ((Int × Int) × Int)} {sl : List Int}

/-- A step of an iterator. -/
theorem PM.step (h : PM w R W p mj ms n cs0 one pos pairs es jl sl) (st : ItStep itE (n + 5) nil0 W W') : PM w W' W' p mj ms n cs0 one pos pairs es jl sl := by
  obtain ⟨lv, l1, l2⟩ := h.l
  obtain ⟨cs, vp, c9, t1, t2, t3, t4, t5, t6, t7, t8⟩ := h.tb
  obtain ⟨es', c', m1, m2⟩ := h.ij
  obtain ⟨es2, c2, s1, s2⟩ := h.is
  exact ⟨st.other h.b1 rfl, ⟨lv, st.other l1 rfl, ownsRow_step l2 st rfl⟩, st.other h.lo rfl, st.other h.ps rfl, ⟨cs, vp, c9, st.other t1 rfl, t2, t3, t4, t5, t6, t7, ownsRow_step t8 st rfl⟩,
    ⟨es', c', st.other m1 rfl, m2⟩, ⟨es2, c2, st.other s1 rfl, s2⟩,
    ⟨st.os.trans h.chg.os, st.tape.trans h.chg.tape, st.output.trans h.chg.output, Nat.le_trans h.chg.size st.size, fun k hk a b c => ((st.below (n := n) (by omega) (by have := h.sz; omega)).block k (by have := h.n0; omega)).trans (h.chg.block k hk a b c)⟩,
    Nat.le_trans h.sz st.size, ItKeeps.refl _ _ _ _, h.n0, h.pn, h.jn, h.sn, h.pj, h.pq, h.js⟩
theorem PM.restart (h : PM w R W p mj ms n cs0 one pos pairs es jl sl) : PM w W W p mj ms n cs0 one pos pairs es jl sl := h.step (ItStep.refl _ _ _ _)

/-- New blocks. -/
theorem PM.grow (h : PM w R W p mj ms n cs0 one pos pairs es jl sl) (hB : Below W.heap.size W W') : PM w R W' p mj ms n cs0 one pos pairs es jl sl := by
  obtain ⟨lv, l1, l2⟩ := h.l
  obtain ⟨cs, vp, c9, t1, t2, t3, t4, t5, t6, t7, t8⟩ := h.tb
  have up : ∀ (k : Nat) (o : Obj), W.heap[k]? = some o → W'.heap[k]? = some o := fun k o hk => (hB.block k (Array.getElem?_eq_some_iff.1 hk).1).trans hk
  have row : ∀ {e : TypeId} {v : Value} {m : Nat} {xs : List Value}, W.ownsRow (n + 5) e 2 v m xs → W'.ownsRow (n + 5) e 2 v m xs := fun hr =>
    ⟨hr.1, hr.2.imp id fun ⟨g, cap, cur, k1, k2, k3, k4⟩ => ⟨g, cap, cur, k1, k2, up _ _ k3, k4⟩⟩
  exact ⟨up _ _ h.b1, ⟨lv, up _ _ l1, row l2⟩, up _ _ h.lo, up _ _ h.ps, ⟨cs, vp, c9, up _ _ t1, t2, t3, t4, t5, t6, t7, row t8⟩, h.ij.of_heap (hB.block _ h.ij.lt), h.is.of_heap (hB.block _ h.is.lt),
    ⟨hB.os.trans h.chg.os, hB.tape.trans h.chg.tape, hB.output.trans h.chg.output, Nat.le_trans h.chg.size hB.size, fun k hk a b c => (hB.block k (Nat.lt_of_lt_of_le hk h.chg.size)).trans (h.chg.block k hk a b c)⟩,
    Nat.le_trans h.sz hB.size, h.keep.trans (ItKeeps.of_below hB (Nat.le_refl _)), h.n0, h.pn, h.jn, h.sn, h.pj, h.pq, h.js⟩

theorem PM.setPos (h : PM w R W p mj ms n cs0 one pos pairs es jl sl) (pos' : Int) : PM w R (W.setCell ⟨n + 3, 0, none⟩ (.int .i32 pos')) p mj ms n cs0 one pos' pairs es jl sl := by
  obtain ⟨lv, l1, l2⟩ := h.l
  obtain ⟨cs, vp, c9, t1, t2, t3, t4, t5, t6, t7, t8⟩ := h.tb
  have oth : ∀ k, k ≠ n + 3 → (W.setCell ⟨n + 3, 0, none⟩ (.int .i32 pos')).heap[k]? = W.heap[k]? := fun k hk => Below.heap_setCell _ _ _ _ hk
  have hp := h.pn; have hj := h.jn; have hs := h.sn; have hn := h.n0
  exact ⟨(oth _ (by omega)).trans h.b1, ⟨lv, (oth _ (by omega)).trans l1, ownsRow_setCell_below l2 (by simp) _⟩, (oth _ (by omega)).trans h.lo, h.ps.set _, ⟨cs, vp, c9, (oth _ (by omega)).trans t1, t2, t3, t4, t5, t6, t7, ownsRow_setCell_below t8 (by simp) _⟩,
    h.ij.of_heap (oth _ (by omega)), h.is.of_heap (oth _ (by omega)),
    ⟨h.chg.os, h.chg.tape, h.chg.output, by simpa [World.setCell] using h.chg.size, fun k hk a b c => (oth k (by omega)).trans (h.chg.block k hk a b c)⟩, by simpa [World.setCell] using h.sz,
    h.keep.setCell _ _ (fun _ _ _ hh => by simp at hh), hn, hp, hj, hs, h.pj, h.pq, h.js⟩

/-- A pair comes in. -/
theorem PM.addPair (h : PM w R W p mj ms n cs0 one pos pairs es jl sl) {vp v' : Value} {c : Int × Int} (hv : ∃ cs, W.heap[p]? = some (.cells cs 47 (0, 0)) ∧ cs[3]? = some vp) (ha : App2 W W' 77 (n + 5) vp v' (pairs.length + 1) (flatP (pairs ++ [c]))) :
    PM w R (W'.setCell ⟨p, 3, none⟩ v') p mj ms n cs0 one pos (pairs ++ [c]) es jl sl := by
  obtain ⟨lv, l1, l2⟩ := h.l
  obtain ⟨cs, vp', c9, t1, t2, t3, t4, t5, t6, t7, t8⟩ := h.tb
  obtain ⟨cs2, u1, u2⟩ := hv
  rw [t1] at u1; cases u1
  rw [t3] at u2; cases u2
  have hp := h.pn; have hj := h.jn; have hs := h.sn; have hn := h.n0; have hsz := h.sz
  have hg := ha.grow
  have ob : ∀ k, vp.ownBlock = some k → n + 5 ≤ k ∧ ∃ cur, W.heap[k]? = some (.cells cur 77 (0, 0)) := fun k hk => ownsRow_block t8 hk
  have up : ∀ (k : Nat) (o : Obj), k < n + 5 → W.heap[k]? = some o → W'.heap[k]? = some o := fun k o hk h' => (hg.block k (by omega) (fun e => by have := (ob k e.symm).1; omega)).trans h'
  have oth : ∀ k, k ≠ p → (W'.setCell ⟨p, 3, none⟩ v').heap[k]? = W'.heap[k]? := fun k hk => Below.heap_setCell _ _ _ _ hk
  have upo : ∀ (k : Nat) (o : Obj), k < n + 5 → k ≠ p → W.heap[k]? = some o → (W'.setCell ⟨p, 3, none⟩ v').heap[k]? = some o := fun k o hk hkp h' => (oth k hkp).trans (up k o hk h')
  refine ⟨upo _ _ (by omega) (by omega) h.b1, ⟨lv, upo _ _ (by omega) (by omega) l1, ?_⟩, upo _ _ (by omega) (by omega) h.lo, upo _ _ (by omega) (by omega) h.ps,
    ⟨cs.setIfInBounds 3 v', v', c9, heap_setCell_same _ _ _ _ _ _ (up _ _ (by omega) t1), by simpa using t2, by rw [Array.getElem?_setIfInBounds, if_pos rfl, if_pos (by omega)], ?_, ?_, ?_, ?_, ?_⟩,
    h.ij.of_heap ((oth _ (Ne.symm h.pj)).trans (hg.block _ h.ij.lt (fun e => by have := (ob _ e.symm).1; omega))), h.is.of_heap ((oth _ (Ne.symm h.pq)).trans (hg.block _ h.is.lt (fun e => by have := (ob _ e.symm).1; omega))),
    ⟨hg.os.trans h.chg.os, hg.tape.trans h.chg.tape, hg.output.trans h.chg.output, by have := h.chg.size; have := hg.size; simp [World.setCell]; omega, fun k hk a b c => (oth k a).trans ((hg.block k (by have := h.chg.size; omega) (fun e => by have := (ob _ e.symm).1; omega)).trans (h.chg.block k hk a b c))⟩,
    by have := hg.size; simp [World.setCell]; omega, ?_, hn, hp, hj, hs, h.pj, h.pq, h.js⟩
  · refine ownsRow_setCell_below (a := ⟨p, 3, none⟩) ⟨l2.1, l2.2.imp id ?_⟩ (by simp; omega) _
    rintro ⟨g, cap, cur, k1, k2, k3, k4⟩
    exact ⟨g, cap, cur, k1, k2, (hg.block g (Array.getElem?_eq_some_iff.1 k3).1 (fun e => by
      obtain ⟨_, cur2, hc2⟩ := ob g e.symm
      rw [k3] at hc2; cases hc2)).trans k3, k4⟩
  · rw [Array.getElem?_setIfInBounds, if_neg (by omega)]; exact t4
  · rw [Array.getElem?_setIfInBounds, if_neg (by omega)]; exact t5
  · rw [Array.getElem?_setIfInBounds, if_neg (by omega)]; exact t6
  · rw [Array.getElem?_setIfInBounds, if_neg (by omega)]; exact t7
  · have := ownsRow_setCell_below (a := ⟨p, 3, none⟩) ha.own (by simp; omega) v'
    simpa using this
  · refine (h.keep.trans (ItKeeps.of_grown hg fun k o hk hko hio _ => ?_)).setCell _ _ (fun _ _ _ hh => by simp at hh; omega)
    obtain ⟨_, cur, hcur⟩ := ob k hk
    rw [hcur] at hko; cases hko; simp [itObj, itE] at hio

/-- An entry comes in. -/
theorem PM.addEs (h : PM w R W p mj ms n cs0 one pos pairs es jl sl) {lv v' : Value} {c : Int × Int} (hv : Boxed W (n + 1) 69 lv) (ha : App2 W W' 75 (n + 5) lv v' (es.length + 1) (flatE (es ++ [c]))) :
    PM w R (W'.setCell ⟨n + 1, 0, none⟩ v') p mj ms n cs0 one pos pairs (es ++ [c]) jl sl := by
  obtain ⟨lv', l1, l2⟩ := h.l
  obtain ⟨cs, vp, c9, t1, t2, t3, t4, t5, t6, t7, t8⟩ := h.tb
  have e0 := l1.cell.symm.trans hv.cell
  cases e0
  have hp := h.pn; have hj := h.jn; have hs := h.sn; have hn := h.n0; have hsz := h.sz
  have hg := ha.grow
  have ob : ∀ k, lv.ownBlock = some k → n + 5 ≤ k ∧ ∃ cur, W.heap[k]? = some (.cells cur 75 (0, 0)) := fun k hk => ownsRow_block l2 hk
  have up : ∀ (k : Nat) (o : Obj), k < n + 5 → W.heap[k]? = some o → W'.heap[k]? = some o := fun k o hk h' => (hg.block k (by omega) (fun e => by have := (ob k e.symm).1; omega)).trans h'
  have oth : ∀ k, k ≠ n + 1 → (W'.setCell ⟨n + 1, 0, none⟩ v').heap[k]? = W'.heap[k]? := fun k hk => Below.heap_setCell _ _ _ _ hk
  have upo : ∀ (k : Nat) (o : Obj), k < n + 5 → k ≠ n + 1 → W.heap[k]? = some o → (W'.setCell ⟨n + 1, 0, none⟩ v').heap[k]? = some o := fun k o hk hkp h' => (oth k hkp).trans (up k o hk h')
  refine ⟨upo _ _ (by omega) (by omega) h.b1, ⟨v', Boxed.set v' (show Boxed W' (n + 1) 69 lv from up _ _ (by omega) hv), ?_⟩, upo _ _ (by omega) (by omega) h.lo, upo _ _ (by omega) (by omega) h.ps,
    ⟨cs, vp, c9, upo _ _ (by omega) (by omega) t1, t2, t3, t4, t5, t6, t7, ?_⟩,
    h.ij.of_heap ((oth _ (by omega)).trans (hg.block _ h.ij.lt (fun e => by have := (ob _ e.symm).1; omega))), h.is.of_heap ((oth _ (by omega)).trans (hg.block _ h.is.lt (fun e => by have := (ob _ e.symm).1; omega))),
    ⟨hg.os.trans h.chg.os, hg.tape.trans h.chg.tape, hg.output.trans h.chg.output, by have := h.chg.size; have := hg.size; simp [World.setCell]; omega, fun k hk a b c => (oth k (by omega)).trans ((hg.block k (by have := h.chg.size; omega) (fun e => by have := (ob _ e.symm).1; omega)).trans (h.chg.block k hk a b c))⟩,
    by have := hg.size; simp [World.setCell]; omega, ?_, hn, hp, hj, hs, h.pj, h.pq, h.js⟩
  · have := ownsRow_setCell_below (a := ⟨n + 1, 0, none⟩) ha.own (by simp) v'
    simpa using this
  · refine ownsRow_setCell_below (a := ⟨n + 1, 0, none⟩) ⟨t8.1, t8.2.imp id ?_⟩ (by simp) _
    rintro ⟨g, cap, cur, k1, k2, k3, k4⟩
    exact ⟨g, cap, cur, k1, k2, (hg.block g (Array.getElem?_eq_some_iff.1 k3).1 (fun e => by
      obtain ⟨_, cur2, hc2⟩ := ob g e.symm
      rw [k3] at hc2; cases hc2)).trans k3, k4⟩
  · refine (h.keep.trans (ItKeeps.of_grown hg fun k o hk hko hio _ => ?_)).setCell _ _ (fun _ _ _ hh => by simp at hh)
    obtain ⟨_, cur, hcur⟩ := ob k hk
    rw [hcur] at hko; cases hko; simp [itObj, itE] at hio

/-- The count of those that are left out. -/
theorem PM.count (h : PM w R W p mj ms n cs0 one pos pairs es jl sl) (v : Int) : PM w R (W.setCell ⟨p, 9, none⟩ (.int .i64 v)) p mj ms n cs0 one pos pairs es jl sl := by
  obtain ⟨lv, l1, l2⟩ := h.l
  obtain ⟨cs, vp, c9, t1, t2, t3, t4, t5, t6, t7, t8⟩ := h.tb
  have oth : ∀ k, k ≠ p → (W.setCell ⟨p, 9, none⟩ (.int .i64 v)).heap[k]? = W.heap[k]? := fun k hk => Below.heap_setCell _ _ _ _ hk
  have hp := h.pn; have hj := h.jn; have hs := h.sn; have hn := h.n0
  refine ⟨(oth _ (by omega)).trans h.b1, ⟨lv, (oth _ (by omega)).trans l1, ownsRow_setCell_below l2 (by simp; omega) _⟩, (oth _ (by omega)).trans h.lo, (oth _ (by omega)).trans h.ps,
    ⟨cs.setIfInBounds 9 (.int .i64 v), vp, v, heap_setCell_same _ _ _ _ _ _ t1, by simpa using t2, ?_, ?_, ?_, by rw [Array.getElem?_setIfInBounds, if_pos rfl, if_pos (by omega)], ?_, ownsRow_setCell_below t8 (by simp; omega) _⟩,
    h.ij.of_heap (oth _ (Ne.symm h.pj)), h.is.of_heap (oth _ (Ne.symm h.pq)),
    ⟨h.chg.os, h.chg.tape, h.chg.output, by simpa [World.setCell] using h.chg.size, fun k hk a b c => (oth k a).trans (h.chg.block k hk a b c)⟩, by simpa [World.setCell] using h.sz,
    h.keep.setCell _ _ (fun _ _ _ hh => by simp at hh; omega), hn, hp, hj, hs, h.pj, h.pq, h.js⟩
  all_goals (rw [Array.getElem?_setIfInBounds, if_neg (by omega)]; assumption)

/-- A map takes an entry. -/
theorem PM.put (h : PM w R W p mj ms n cs0 one pos pairs es jl sl) {r : Nat} (hr : r = mj ∨ r = ms) (hg : W.grownBy W' (some r)) {jl' : List ((Int × Int) × Int)} {sl' : List Int} (h1 : IsMap Tryd.prog 77 W' mj (SjOf jl')) (h2 : IsMap Tryd.prog 21 W' ms (SsOf sl')) :
    PM w R W' p mj ms n cs0 one pos pairs es jl' sl' := by
  obtain ⟨lv, l1, l2⟩ := h.l
  obtain ⟨cs, vp, c9, t1, t2, t3, t4, t5, t6, t7, t8⟩ := h.tb
  have hp := h.pn; have hj := h.jn; have hs := h.sn; have hn := h.n0; have hsz := h.sz; have hpj := h.pj; have hpq := h.pq
  have hrn : r < n := by rcases hr with rfl | rfl <;> assumption
  have hrp : r ≠ p := by rcases hr with rfl | rfl <;> omega
  have up : ∀ (k : Nat) (o : Obj), k ≠ r → W.heap[k]? = some o → W'.heap[k]? = some o := fun k o hk h' => (hg.block k (Array.getElem?_eq_some_iff.1 h').1 (by simpa using hk)).trans h'
  have row : ∀ {e : TypeId} {v : Value} {m : Nat} {xs : List Value}, W.ownsRow (n + 5) e 2 v m xs → W'.ownsRow (n + 5) e 2 v m xs := fun hr =>
    ⟨hr.1, hr.2.imp id fun ⟨g, cap, cur, k1, k2, k3, k4⟩ => ⟨g, cap, cur, k1, k2, up _ _ (by omega) k3, k4⟩⟩
  exact ⟨up _ _ (by omega) h.b1, ⟨lv, up _ _ (by omega) l1, row l2⟩, up _ _ (by omega) h.lo, up _ _ (by omega) h.ps, ⟨cs, vp, c9, up _ _ (Ne.symm hrp) t1, t2, t3, t4, t5, t6, t7, row t8⟩, h1, h2,
    ⟨hg.os.trans h.chg.os, hg.tape.trans h.chg.tape, hg.output.trans h.chg.output, Nat.le_trans h.chg.size hg.size, fun k hk a b c => (hg.block k (Nat.lt_of_lt_of_le hk h.chg.size) (by rcases hr with rfl | rfl <;> simpa using by assumption)).trans (h.chg.block k hk a b c)⟩,
    Nat.le_trans hsz hg.size, h.keep.trans (ItKeeps.of_grown hg fun k o hk hko hio hb => by cases hk; omega), hn, hp, hj, hs, hpj, hpq, h.js⟩
end
end Go.Proofs.YtejikiebhjiocaaDoor
