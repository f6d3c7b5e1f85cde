/- (*ucd.Tables).parts: what it computes, and the memory as it stands between two rounds. -/
import Derived.Test.YtejikiebhjiocaaDoorCl
set_option linter.unusedVariables false
set_option linter.unusedSimpArgs false
namespace Go.Proofs.YtejikiebhjiocaaDoor
open Go.RowKit Go.Shelf

noncomputable def pairsBA : ByteArray := strOf Tryd.f26 3
noncomputable def singlesBA : ByteArray := strOf Tryd.f26 15

/-- The state between two entries of the pairs. -/
structure PSt where
  pos : Int
  pairs : List (Int × Int)
  es : List (Int × Int)
  jl : List ((Int × Int) × Int)
  sl : List Int
def psRow (st : PSt) (r : (Int × Int × Int) × Bool) : PSt :=
  { pos := wrap32 (st.pos + r.1.1)
    pairs := st.pairs ++ [(r.1.2.1, r.1.2.2)]
    es := st.es ++ [(wrap32 (st.pos + r.1.1), ((st.pairs.length + 1 : Nat) : Int))]
    jl := if r.2 then st.jl else st.jl ++ [((r.1.2.1, r.1.2.2), wrap32 (st.pos + r.1.1))]
    sl := if r.2 then st.sl else st.sl ++ [r.1.2.2] }
def psAll (l : List ((Int × Int × Int) × Bool)) : PSt := l.foldl psRow ⟨0, [], [], [], []⟩
theorem psAll_take (l : List ((Int × Int × Int) × Bool)) (i : Nat) (h : i < l.length) : psAll (l.take (i + 1)) = psRow (psAll (l.take i)) l[i] := by
  rw [List.take_succ_eq_append_getElem h]; unfold psAll; rw [List.foldl_append]; rfl
theorem psAll_len (l : List ((Int × Int × Int) × Bool)) : (psAll l).pairs.length = l.length ∧ (psAll l).es.length = l.length ∧ (psAll l).sl.length ≤ l.length := by
  have go : ∀ (l : List ((Int × Int × Int) × Bool)) (s : PSt), (l.foldl psRow s).pairs.length = s.pairs.length + l.length ∧ (l.foldl psRow s).es.length = s.es.length + l.length ∧ (l.foldl psRow s).sl.length ≤ s.sl.length + l.length := by
    intro l
    induction l with
    | nil => intro s; simp
    | cons r l ih =>
      intro s
      obtain ⟨h1, h2, h3⟩ := ih (psRow s r)
      refine ⟨?_, ?_, ?_⟩
      · rw [List.foldl_cons, h1]; simp only [psRow, List.length_append, List.length_cons, List.length_nil]; omega
      · rw [List.foldl_cons, h2]; simp only [psRow, List.length_append, List.length_cons, List.length_nil]; omega
      · refine Nat.le_trans h3 ?_
        simp only [psRow, List.length_cons]
        split <;> simp <;> omega
  simpa [psAll] using go l ⟨0, [], [], [], []⟩

/-- The singles: place by place. -/
def sgRow (st : Int × List (Int × Int)) (r : Int × Int × Int) : Int × List (Int × Int) := (wrap32 (st.1 + r.1), st.2 ++ [(wrap32 (st.1 + r.1), r.2.1)])
def sgAll (l : List (Int × Int × Int)) : Int × List (Int × Int) := l.foldl sgRow (0, [])
theorem sgAll_take (l : List (Int × Int × Int)) (i : Nat) (h : i < l.length) : sgAll (l.take (i + 1)) = sgRow (sgAll (l.take i)) l[i] := by
  rw [List.take_succ_eq_append_getElem h]; unfold sgAll; rw [List.foldl_append]; rfl
theorem sgAll_len (l : List (Int × Int × Int)) : (sgAll l).2.length = l.length := by
  have go : ∀ (l : List (Int × Int × Int)) (s : Int × List (Int × Int)), (l.foldl sgRow s).2.length = s.2.length + l.length := by
    intro l
    induction l with
    | nil => intro s; simp
    | cons r l ih => intro s; rw [List.foldl_cons, ih]; simp [sgRow]; omega
  simpa [sgAll] using go l (0, [])

/-! The maps. -/
def twoV (k : Int × Int) : Value := .agg #[.int .i32 k.1, .int .i32 k.2]
noncomputable def SjOf (jl : List ((Int × Int) × Int)) : Value → Option Value := jl.foldl (fun S e => putS S (twoV e.1) (.int .i32 e.2)) (fun _ => none)
theorem SjOf_snoc (jl : List ((Int × Int) × Int)) (k : Int × Int) (v : Int) : SjOf (jl ++ [(k, v)]) = putS (SjOf jl) (twoV k) (.int .i32 v) := by simp [SjOf]
/-- The last one counts. -/
def joinedOf (jl : List ((Int × Int) × Int)) (a b : Int) : Option Int := jl.foldl (fun o e => if e.1 = (a, b) then some e.2 else o) none
theorem joinedOf_snoc (jl : List ((Int × Int) × Int)) (k : Int × Int) (v a b : Int) : joinedOf (jl ++ [(k, v)]) a b = if k = (a, b) then some v else joinedOf jl a b := by simp [joinedOf]
theorem SjOf_at (jl : List ((Int × Int) × Int)) (a b : Int) : SjOf jl (.agg #[.int .i32 a, .int .i32 b]) = (joinedOf jl a b).map (Value.int .i32) := by
  have go : ∀ (l : List ((Int × Int) × Int)), SjOf l (.agg #[.int .i32 a, .int .i32 b]) = (joinedOf l a b).map (Value.int .i32) := by
    intro l
    obtain ⟨m, hm⟩ : ∃ m, m = l.reverse := ⟨_, rfl⟩
    have : l = m.reverse := by rw [hm, List.reverse_reverse]
    subst this
    clear hm
    induction m with
    | nil => rfl
    | cons e m ih =>
      obtain ⟨k, v⟩ := e
      rw [List.reverse_cons, SjOf_snoc, joinedOf_snoc]
      by_cases hk : k = (a, b)
      · subst hk; rw [if_pos rfl]; exact putS_same _ _ _
      · rw [if_neg hk, putS_other _ _ (by
          intro e
          apply hk
          unfold twoV at e
          simp at e
          exact Prod.ext e.1.symm e.2.symm)]
        exact ih
  exact go jl

noncomputable def SsOf (sl : List Int) : Value → Option Value := fun v => match v with
  | .int .i32 c => if c ∈ sl then some (.int .i64 (sl.count c : Int)) else none
  | _ => none
def secondsOf (sl : List Int) (c : Int) : Option Int := if c ∈ sl then some (sl.count c : Int) else none
theorem SsOf_at (sl : List Int) (c : Int) : SsOf sl (.int .i32 c) = (secondsOf sl c).map (Value.int .i64) := by
  unfold SsOf secondsOf
  simp only
  split <;> rfl
theorem SsOf_get (sl : List Int) (c : Int) : (SsOf sl (.int .i32 c)).getD (.int .i64 0) = .int .i64 (sl.count c : Int) := by
  unfold SsOf
  simp only
  split
  · rfl
  · rename_i h; rw [List.count_eq_zero_of_not_mem h]; rfl
theorem SsOf_snoc (sl : List Int) (c : Int) : SsOf (sl ++ [c]) = putS (SsOf sl) (.int .i32 c) (.int .i64 ((sl.count c : Int) + 1)) := by
  funext v
  by_cases h : v = .int .i32 c
  · subst h; rw [putS_same]; simp [SsOf]
  · rw [putS_other _ _ h]
    unfold SsOf
    split
    · rename_i d
      have hne : d ≠ c := fun e => h (by rw [e])
      simp only [List.mem_append, List.mem_singleton, hne, or_false]
      rw [List.count_append, List.count_singleton]
      have : (c == d) = false := by simpa using fun e => hne e.symm
      simp [this]
    · rfl

def flatP (l : List (Int × Int)) : List Value := l.flatMap fun e => [.int .i32 e.1, .int .i32 e.2]
theorem flatP_snoc (l : List (Int × Int)) (a b : Int) : flatP (l ++ [(a, b)]) = flatP l ++ [.int .i32 a, .int .i32 b] := by simp [flatP]
theorem flatP_at : ∀ (l : List (Int × Int)) (j : Nat) (h : j < l.length), (flatP l)[j * 2]? = some (.int .i32 l[j].1) ∧ (flatP l)[j * 2 + 1]? = some (.int .i32 l[j].2)
  | e :: l, 0, _ => ⟨rfl, rfl⟩
  | e :: l, j + 1, h => by
    have := flatP_at l j (by simpa using h)
    have e1 : flatP (e :: l) = .int .i32 e.1 :: .int .i32 e.2 :: flatP l := rfl
    rw [e1, show (j + 1) * 2 = j * 2 + 1 + 1 by omega]
    exact this

/-- The tables' own block, while the pairs come in. -/
structure PTab (W : World) (p mj ms base : Nat) (cs0 : Array Value) (st : PSt) : Prop where
  is : ∃ (cs : Array Value) (vp : Value) (c9 : Int), W.heap[p]? = some (.cells cs 47 (0, 0)) ∧ cs.size = 10 ∧ cs[3]? = some vp ∧ cs[4]? = some (.map (some mj)) ∧ cs[5]? = some (.map (some ms)) ∧ cs[9]? = some (.int .i64 c9) ∧
    cs[0]? = cs0[0]? ∧ (∃ x1, cs[1]? = some x1) ∧ (∃ x2, cs[2]? = some x2) ∧ (∃ x7, cs[7]? = some x7) ∧ (∃ x8, cs[8]? = some x8) ∧ W.ownsRow base 77 2 vp st.pairs.length (flatP st.pairs)
  mj : IsMap Tryd.prog 77 W mj (SjOf st.jl)
  ms : IsMap Tryd.prog 21 W ms (SsOf st.sl)

theorem twoInfo : ∃ i z, Tryd.prog.info? 77 = some i ∧ i.zero = some z ∧ i.size = 2 ∧ i.bytes = 8 ∧ z.cells.size = 2 := by
  have hs : (Tryd.prog.info? 77).map (·.size) = some 2 := by kernel_rfl
  have hb : (Tryd.prog.info? 77).map (·.bytes) = some 8 := by kernel_rfl
  have hz : ((Tryd.prog.info? 77).bind (·.zero)).map (·.cells.size) = some 2 := by kernel_rfl
  cases hie : Tryd.prog.info? 77 with
  | none => rw [hie] at hs; cases hs
  | some ie =>
    rw [hie] at hs hz hb
    simp only [Option.map_some, Option.some.injEq, Option.bind_some] at hs hz hb
    cases hzz : ie.zero with
    | none => rw [hzz] at hz; cases hz
    | some z => rw [hzz] at hz; exact ⟨ie, z, rfl, hzz, hs, hb, by simpa using hz⟩

/-! Appends as names that a walk's simp does not lay open. -/
@[irreducible] noncomputable def appP (args : Array Value) : Sem Value := Builtin.append_ #[44, 44] 44 args
@[irreducible] noncomputable def appE (args : Array Value) : Sem Value := Builtin.append_ #[69, 69] 69 args
theorem appP_eq (args : Array Value) : Builtin.append_ #[44, 44] 44 args = appP args := by unfold appP; rfl
theorem appE_eq (args : Array Value) : Builtin.append_ #[69, 69] 69 args = appE args := by unfold appE; rfl

/-- What an append of one element of two cells leaves. -/
structure App2 (W W' : World) (e : TypeId) (base : Nat) (v v' : Value) (n : Nat) (xs : List Value) : Prop where
  own : W'.ownsRow base e 2 v' n xs
  grow : W.grownBy W' v.ownBlock
  form : ∃ g cap, v' = .slice (some ⟨g, 0, none⟩) n cap

theorem appP_run (W : World) (base : Nat) (v : Value) (l : List (Int × Int)) (a b : Int) (h : W.ownsRow base 77 2 v l.length (flatP l)) (hl : l.length ≤ 1000000) (hb : base ≤ W.heap.size) :
    ∃ v' w', (appP #[v, .slice (some ⟨W.heap.size, 0, none⟩) 1 1]).run Tryd.prog ((W.alloc (.cells #[.int .i32 a, .int .i32 b] 77)).drew) = .ok v' w' ∧ App2 W w' 77 base v v' (l.length + 1) (flatP (l ++ [(a, b)])) := by
  obtain ⟨i, z, h1, h2, h3, h4, h5⟩ := twoInfo
  obtain ⟨g, cap, w', hr, ho, hg, _, _⟩ := run_append_lies (P := Tryd.prog) ((W.alloc (.cells #[.int .i32 a, .int .i32 b] 77)).drew) 44 44 base 77 i z 2 8 Tryd.underlying44 h1 h2 h3 h4 h5 (by omega) v l.length (flatP l)
    (ownsRow_alloc h _) ⟨W.heap.size, 0, none⟩ 1 1 [.int .i32 a, .int .i32 b] rfl
    (by
      intro j u hu
      rw [Addr.add_mid]
      show (W.alloc (.cells #[.int .i32 a, .int .i32 b] 77)).cell? _ = _
      rw [cell_of_row _ _ _ _ _ _ (heap_alloc_new _ _)]; simpa using hu)
    (by intro u hu; simp at hu; rcases hu with rfl | rfl <;> rfl) (by omega) (by unfold maxLen; omega) (by omega) (by show base ≤ (W.alloc _).heap.size; simp; omega) _ rfl
  refine ⟨_, w', by unfold appP; exact hr, ?_, ?_, _, _, rfl⟩
  · rw [flatP_snoc]; exact ho
  · exact (World.grownBy_alloc W _ _).trans ⟨hg.os, hg.tape, hg.output, hg.size, hg.block⟩
theorem appE_run (W : World) (base : Nat) (v : Value) (l : List (Int × Int)) (a b : Int) (h : W.ownsRow base 75 2 v l.length (flatE l)) (hl : l.length ≤ 1000000) (hb : base ≤ W.heap.size) :
    ∃ v' w', (appE #[v, .slice (some ⟨W.heap.size, 0, none⟩) 1 1]).run Tryd.prog ((W.alloc (.cells #[.int .i32 a, .int .i64 b] 75)).drew) = .ok v' w' ∧ App2 W w' 75 base v v' (l.length + 1) (flatE (l ++ [(a, b)])) := by
  obtain ⟨i, z, h1, h2, h3, h4, h5⟩ := entryInfo
  obtain ⟨g, cap, w', hr, ho, hg, _, _⟩ := run_append_lies (P := Tryd.prog) ((W.alloc (.cells #[.int .i32 a, .int .i64 b] 75)).drew) 69 69 base 75 i z 2 16 Tryd.underlying69 h1 h2 h3 h4 h5 (by omega) v l.length (flatE l)
    (ownsRow_alloc h _) ⟨W.heap.size, 0, none⟩ 1 1 [.int .i32 a, .int .i64 b] rfl
    (by
      intro j u hu
      rw [Addr.add_mid]
      show (W.alloc (.cells #[.int .i32 a, .int .i64 b] 75)).cell? _ = _
      rw [cell_of_row _ _ _ _ _ _ (heap_alloc_new _ _)]; simpa using hu)
    (by intro u hu; simp at hu; rcases hu with rfl | rfl <;> rfl) (by omega) (by unfold maxLen; omega) (by omega) (by show base ≤ (W.alloc _).heap.size; simp; omega) _ rfl
  refine ⟨_, w', by unfold appE; exact hr, ?_, ?_, _, _, rfl⟩
  · rw [flatE_snoc]; exact ho
  · exact (World.grownBy_alloc W _ _).trans ⟨hg.os, hg.tape, hg.output, hg.size, hg.block⟩
end Go.Proofs.YtejikiebhjiocaaDoor
