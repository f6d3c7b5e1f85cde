/- Maps by their raw entries: what a look-up tells, what a store leaves; arrays of whole numbers as keys. -/
import Derived.Maps.Keyed
import Derived.DeepKeys4
import Derived.Maps.Own
import Derived.Below
set_option linter.unusedVariables false
set_option linter.unusedSimpArgs false
namespace Go.Proofs.YtejikiebhjiocaaDoor
open Go Go.RowKit Go.Maps

theorem mapM_some {α β : Type} {f : α → Option β} {g : α → β} : ∀ {l : List α}, (∀ x ∈ l, f x = some (g x)) → l.mapM f = some (l.map g)
  | [], _ => rfl
  | x :: xs, h => by
    rw [List.mapM_cons, h x List.mem_cons_self, mapM_some (fun y hy => h y (List.mem_cons_of_mem _ hy))]
    rfl

/-- An array of whole numbers reads as a key. -/
theorem keyOf_ints {P : Program} {t e n m : Nat} {q : IntKind} (hu : P.underlying t = some (.array n e)) (he : P.underlying e = some (.int q)) (hc : P.cellsOf e = 1) (hct : P.cellsOf t = n)
    (hk : P.keyType t = true) (hsz : P.types.size = m + 1) (xs : List Int) (hl : xs.length = n) (hw : ∀ x ∈ xs, (Lit.int q x).wf = true) :
    keyOf P t (.agg (xs.map (Value.int q)).toArray) = some (.string (keyBytes (xs.map (Lit.int q)))) := by
  have hf : Value.formed P t (.agg (xs.map (Value.int q)).toArray) = true := by
    simp [Value.formed, hu, hct, hl]
  have hlits : P.keyLits (P.types.size + 1) t (xs.map (Value.int q)) = some (xs.map (Lit.int q)) := by
    rw [hsz]
    unfold Program.keyLits
    simp only [hu]
    rw [if_pos (by simp [hct, hl])]
    rw [mapM_some (g := fun i => [Lit.int q (xs.getD i 0)])]
    · simp only [Option.map_some, Option.some.injEq]
      subst hl
      have : (List.range xs.length).map (fun i => [Lit.int q (xs.getD i 0)]) = xs.map (fun x => [Lit.int q x]) := by
        apply List.ext_getElem
        · simp
        · intro i h1 h2
          simp at h1 h2
          simp [List.getElem?_eq_getElem h2]
      rw [this]
      clear this hw hf hct hu
      induction xs with
      | nil => rfl
      | cons x xs ih => simp [ih]
    · intro i hi
      have hi' : i < xs.length := by rw [hl]; simpa using hi
      have e1 : ((xs.map (Value.int q)).drop (i * P.cellsOf e)).take (P.cellsOf e) = [.int q xs[i]] := by
        rw [hc, Nat.mul_one, List.drop_eq_getElem_cons (by simpa using hi')]
        simp
      rw [e1]
      unfold Program.keyLits
      simp [he, hw _ (List.getElem_mem hi'), List.getElem?_eq_getElem hi']
  unfold keyOf
  simp only [hu]
  rw [hk, hf]
  simp only [Bool.and_self, if_true]
  show Option.map _ (P.keyLits (P.types.size + 1) t (Value.cells (.agg (xs.map (Value.int q)).toArray)).toList) = _
  simp only [Value.cells, List.toList_toArray]
  rw [hlits]
  rfl

/-- Block b is a map of keys of type k with the entries S. -/
def IsMap (P : Program) (k : Nat) (w : World) (b : Nat) (S : Value → Option Value) : Prop :=
  ∃ (es : Array MapEntry) (clock : Nat), w.heap[b]? = some (.map es clock) ∧ (∀ e ∈ es.toList, (∃ l, keyOf P k e.key = some l) ∧ S e.key = some e.val) ∧
    (∀ x v, S x = some v → ∃ e ∈ es.toList, e.key = x ∧ e.val = v) ∧ es.toList.Pairwise (fun a b => a.key ≠ b.key)

theorem IsMap.lt {P : Program} {k b : Nat} {w : World} {S : Value → Option Value} (h : IsMap P k w b S) : b < w.heap.size := by
  obtain ⟨es, c, hb, _⟩ := h; exact (Array.getElem?_eq_some_iff.1 hb).1
theorem IsMap.of_heap {P : Program} {k b : Nat} {w w' : World} {S : Value → Option Value} (h : IsMap P k w b S) (e : w'.heap[b]? = w.heap[b]?) : IsMap P k w' b S := by
  obtain ⟨es, c, hb, r⟩ := h; exact ⟨es, c, e.trans hb, r⟩
theorem IsMap.below {P : Program} {k b n : Nat} {w w' : World} {S : Value → Option Value} (h : IsMap P k w b S) (hB : Below n w w') (hn : b < n) : IsMap P k w' b S := h.of_heap (hB.block b hn)
theorem IsMap.new (P : Program) (k : Nat) (w : World) : IsMap P k (w.alloc (.map #[] 0)) w.heap.size (fun _ => none) :=
  ⟨#[], 0, by show (w.heap.push _)[w.heap.size]? = _; simp, by simp, by simp, by simp⟩

/-- A look-up. -/
theorem IsMap.find {P : Program} {k b : Nat} (K : Keyed P k) {w : World} {S : Value → Option Value} (h : IsMap P k w b S) {x : Value} {lx : Lit} (hx : keyOf P k x = some lx) :
    ∃ es clock, w.heap[b]? = some (.map es clock) ∧ (∀ em, (Instr.checkKey em 10000 k x).run P w = .ok () w) ∧
      ((S x = none ∧ (Instr.findKey k x es.toList).run P w = .ok none w) ∨ ∃ j v, S x = some v ∧ (Instr.findKey k x es.toList).run P w = .ok (some (j, v)) w) := by
  obtain ⟨es, clock, hb, hS, hE, hd⟩ := h
  refine ⟨es, clock, hb, fun em => K.check w em hx, ?_⟩
  rcases K.find w hx es.toList (fun e he => (hS e he).1) with ⟨hr, hn⟩ | ⟨j, e, hr, hj, hk⟩
  · left
    refine ⟨?_, hr⟩
    cases hsx : S x with
    | none => rfl
    | some v => obtain ⟨e, he, h1, _⟩ := hE x v hsx; exact absurd h1 (hn e he)
  · right
    have hm := List.mem_of_getElem? hj
    exact ⟨j, e.val, by rw [← hk]; exact (hS e hm).2, hr⟩

theorem IsMap.run_lookup {P : Program} {t k e b : Nat} (K : Keyed P k) (ht : P.underlying t = some (.map k e)) {z : Value} (hz : ∀ w, (zeroValue e).run P w = .ok z w) {w : World} {S : Value → Option Value} (h : IsMap P k w b S) {x : Value} {lx : Lit} (hx : keyOf P k x = some lx) (ok : Bool) :
    (Instr.lookup t (.map (some b)) x ok).run P w = .ok (if ok then .tuple #[(S x).getD z, .bool (S x).isSome] else (S x).getD z) w := by
  obtain ⟨es, clock, hb, hc, hf⟩ := h.find K hx
  have hg : (getObj b).run P w = .ok (.map es clock) w := by simp [getObj, Sem.run, hb]
  unfold Instr.lookup
  rcases hf with ⟨hn, hf⟩ | ⟨j, v, hs, hf⟩
  · cases ok <;> simp [Sem.run_bind, run_underlying ht w, Result.andThen, hg, hc, hf, hz, hn]
  · cases ok <;> simp [Sem.run_bind, run_underlying ht w, Result.andThen, hg, hc, hf, hs]

open Classical in
/-- What a map holds behind a store. -/
noncomputable def putS (S : Value → Option Value) (x v : Value) : Value → Option Value := fun y => if y = x then some v else S y

theorem putS_same (S : Value → Option Value) (x v : Value) : putS S x v x = some v := by simp [putS]
theorem putS_other (S : Value → Option Value) {x y : Value} (v : Value) (h : y ≠ x) : putS S x v y = S y := by simp [putS, h]

theorem IsMap.run_update {P : Program} {t k e b : Nat} (K : Keyed P k) (ht : P.underlying t = some (.map k e)) {w : World} {S : Value → Option Value} (h : IsMap P k w b S) {x : Value} {lx : Lit} (hx : keyOf P k x = some lx) (v : Value) :
    ∃ w', (Instr.mapUpdate t (.map (some b)) x v).run P w = .ok () w' ∧ IsMap P k w' b (putS S x v) ∧ w.grownBy w' (some b) := by
  obtain ⟨es, clock, hb, hS, hE, hd⟩ := h
  have hc := K.check w false hx
  have hg : (getObj b).run P w = .ok (.map es clock) w := by simp [getObj, Sem.run, hb]
  have hlt := (Array.getElem?_eq_some_iff.1 hb).1
  have hset : ∀ o : Obj, (setObj b o).run P w = .ok () { w with heap := w.heap.setIfInBounds b o } := fun o => by simp [setObj, Sem.run, hb]
  have hgrow : ∀ o : Obj, w.grownBy { w with heap := w.heap.setIfInBounds b o } (some b) := fun o =>
    ⟨rfl, rfl, rfl, by simp, fun i hi hne => by
      have : b ≠ i := fun e => hne (by rw [e])
      simp [Array.getElem?_setIfInBounds_ne this]⟩
  rcases K.find w hx es.toList (fun e he => (hS e he).1) with ⟨hr, hn⟩ | ⟨j, e, hr, hj, hk⟩
  · refine ⟨_, ?_, ⟨es.push { key := x, val := v, born := clock }, clock + 1, ?_, ?_, ?_, ?_⟩, hgrow (.map (es.push { key := x, val := v, born := clock }) (clock + 1))⟩
    · unfold Instr.mapUpdate
      simp [Sem.run_bind, run_underlying ht w, Result.andThen, hg, hc, hr, hset]
    · simp [hlt]
    · intro e he
      simp only [Array.toList_push, List.mem_append, List.mem_singleton] at he
      rcases he with he | rfl
      · exact ⟨(hS e he).1, by rw [putS_other _ _ (hn e he)]; exact (hS e he).2⟩
      · exact ⟨⟨lx, hx⟩, putS_same _ _ _⟩
    · intro y u hy
      by_cases hyx : y = x
      · subst hyx; rw [putS_same] at hy; cases hy
        exact ⟨_, by simp only [Array.toList_push, List.mem_append, List.mem_singleton]; exact .inr rfl, rfl, rfl⟩
      · rw [putS_other _ _ hyx] at hy
        obtain ⟨e, he, h1, h2⟩ := hE y u hy
        exact ⟨e, by simp only [Array.toList_push, List.mem_append]; exact .inl he, h1, h2⟩
    · simp only [Array.toList_push, List.pairwise_append]
      refine ⟨hd, by simp, fun a ha b' hb' => ?_⟩
      simp only [List.mem_singleton] at hb'
      subst hb'
      exact hn a ha
  · have hjl : j < es.toList.length := (List.getElem?_eq_some_iff.1 hj).1
    have hje : es.toList[j] = e := (List.getElem?_eq_some_iff.1 hj).2
    have hst : (Instr.keyThatStays x x).run P w = .ok x w := K.stays w hx
    have hkey : ((es[j]?).map (·.key)).getD x = x := by
      rw [← Array.getElem?_toList, hj]; simpa using hk
    have hmod : (es.modify j fun e => { e with key := x, val := v }).toList = es.toList.set j { e with key := x, val := v } := by
      rw [Array.toList_modify]
      apply List.ext_getElem
      · simp
      · intro i h1 h2
        rw [List.getElem_modify, List.getElem_set]
        split
        · rename_i e1; subst e1; rw [hje]
        · rfl
    refine ⟨_, ?_, ⟨es.modify j fun e => { e with key := x, val := v }, clock, ?_, ?_, ?_, ?_⟩, hgrow (.map (es.modify j fun e => { e with key := x, val := v }) clock)⟩
    · unfold Instr.mapUpdate
      simp [Sem.run_bind, run_underlying ht w, Result.andThen, hg, hc, hr, hset, hkey, hst]
    · simp [hlt]
    · intro e' he'
      rw [hmod] at he'
      obtain ⟨i, hi, hie⟩ := List.getElem_of_mem he'
      rw [List.getElem_set] at hie
      split at hie
      · subst hie; exact ⟨⟨lx, hx⟩, putS_same _ _ _⟩
      · rename_i hne
        have hi' : i < es.toList.length := by simpa using hi
        have hm : e' ∈ es.toList := by rw [← hie]; exact List.getElem_mem _
        refine ⟨(hS e' hm).1, ?_⟩
        have hke : e'.key ≠ x := by
          have hkj : es.toList[j].key = x := by rw [hje]; exact hk
          rw [← hie]
          intro hx'
          have hx2 := hx'.trans hkj.symm
          revert hx2
          show es.toList[i].key ≠ es.toList[j].key
          rcases Nat.lt_or_gt_of_ne (fun h => hne h.symm) with h | h
          · exact List.pairwise_iff_getElem.1 hd i j hi' hjl h
          · exact (List.pairwise_iff_getElem.1 hd j i hjl hi' h).symm
        rw [putS_other _ _ hke]; exact (hS e' hm).2
    · intro y u hy
      rw [hmod]
      by_cases hyx : y = x
      · subst hyx; rw [putS_same] at hy; cases hy
        exact ⟨_, List.mem_set hjl _, rfl, rfl⟩
      · rw [putS_other _ _ hyx] at hy
        obtain ⟨e', he', h1, h2⟩ := hE y u hy
        refine ⟨e', ?_, h1, h2⟩
        obtain ⟨i, hi, hie⟩ := List.getElem_of_mem he'
        have hne : j ≠ i := by
          intro h; subst h; rw [hje] at hie; subst hie; exact hyx (h1.symm.trans hk)
        rw [← hie]
        have : (es.toList.set j { e with key := x, val := v })[i]'(by simpa using hi) = es.toList[i] := List.getElem_set_ne hne _
        rw [← this]; exact List.getElem_mem _
    · rw [hmod, List.pairwise_iff_getElem]
      intro a c ha hc' hac
      rw [List.length_set] at ha hc'
      have h0 := List.pairwise_iff_getElem.1 hd a c ha hc' hac
      rw [List.getElem_set, List.getElem_set]
      split
      · rename_i e1; subst e1
        rw [if_neg (by omega)]
        intro h; apply h0; rw [← h]; rw [hje]; exact hk
      · split
        · rename_i e1; subst e1
          intro h; apply h0; rw [h]; rw [hje]; exact hk.symm
        · exact h0
end Go.Proofs.YtejikiebhjiocaaDoor
