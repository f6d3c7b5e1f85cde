/- (*ucd.Tables).classes. -/
import Derived.Test.YtejikiebhjiocaaDoorUc
import Derived.Test.YtejikiebhjiocaaDoorSc
import Derived.Test.YtejikiebhjiocaaDoorEs
import Derived.OwnWalkIn
import Derived.Deep.MidRow
set_option linter.unusedVariables false
set_option linter.unusedSimpArgs false
namespace Go.Proofs.YtejikiebhjiocaaDoor
open Go.RowKit Go.Shelf
attribute [local go_sem] Oper.semAt_some

/-! The program's own texts, out of its form in Lean. -/
noncomputable def regOps (k : Nat) : Code → Option (Array Oper)
  | .region id ops _ => if id = k then some ops else none
  | .seq a b => (regOps k a).orElse fun _ => regOps k b
  | .block _ c => regOps k c
  | .rangeFunc _ _ a b => (regOps k a).orElse fun _ => regOps k b
  | _ => none
noncomputable def strArg : Op → ByteArray
  | .call c => match (c.args[0]? : Option Operand) with
    | some (.const (.string s)) => s
    | _ => ⟨#[]⟩
  | _ => ⟨#[]⟩
noncomputable def strOf (f : Func) (k : Nat) : ByteArray :=
  match f.body with
  | some c => match regOps k c with
    | some ops => match ops[0]? with
      | some o => strArg o.op
      | none => ⟨#[]⟩
    | none => ⟨#[]⟩
  | none => ⟨#[]⟩
noncomputable def classesBA : ByteArray := strOf Tryd.f25 2

theorem SpaceIs.below {w W : World} {n : Nat} (h : SpaceIs w) (hB : Below n w W) (hn : w.heap.size ≤ n) : SpaceIs W := by
  unfold SpaceIs Lib.TabIs World.var? at *
  cases hg : (Tryd.prog.globalNamed "strings.asciiSpace") with
  | none => rw [hg] at h; simp at h
  | some g =>
    rw [hg] at h
    simp only [Option.bind_some] at h ⊢
    cases hb : w.heap[g]? with
    | none => rw [hb] at h; simp at h
    | some o => rw [hb] at h; rw [hB.block g (Nat.lt_of_lt_of_le (Array.getElem?_eq_some_iff.1 hb).1 hn), hb]; exact h

/-- The numbers of an entry. -/
def entN (q : List UInt8) : Int × Int × Int := entU (Lib.trimSuffix q [33]) 0 0 0 0
def entB (q : List UInt8) : Bool := Lib.hasSuffix q [33]
theorem rowOf_ent (q : List UInt8) : rowOf q = #[.agg #[.int .i32 (entN q).1, .int .i32 (entN q).2.1, .int .i32 (entN q).2.2], .bool (entB q)] := rfl

def clsOne (v : Int) (s : Int × List (Int × Int)) : Int × List (Int × Int) := (wrap32 (s.1 + 1), s.2 ++ [(s.1, v)])
def clsN (v : Int) : Nat → Int × List (Int × Int) → Int × List (Int × Int)
  | 0, s => s
  | k + 1, s => clsOne v (clsN v k s)
def clsRow (s : Int × List (Int × Int)) (r : Int × Int × Int) : Int × List (Int × Int) := clsN r.2.2 r.2.1.toNat (wrap32 (s.1 + r.1), s.2)
def clsAll (l : List (Int × Int × Int)) : Int × List (Int × Int) := l.foldl clsRow (0, [])
theorem clsN_len (v : Int) (k : Nat) (s : Int × List (Int × Int)) : (clsN v k s).2.length = s.2.length + k := by
  induction k with
  | zero => rfl
  | succ k ih => simp [clsN, clsOne, ih]; omega
theorem clsRow_len (s : Int × List (Int × Int)) (r : Int × Int × Int) : (clsRow s r).2.length = s.2.length + r.2.1.toNat := by simp [clsRow, clsN_len]
theorem clsAll_take (l : List (Int × Int × Int)) (i : Nat) (h : i < l.length) : clsAll (l.take (i + 1)) = clsRow (clsAll (l.take i)) l[i] := by
  rw [List.take_succ_eq_append_getElem h]; unfold clsAll; rw [List.foldl_append]; rfl
theorem clsAll_mono (l : List (Int × Int × Int)) (i : Nat) (h : i ≤ l.length) : (clsAll (l.take i)).2.length ≤ (clsAll l).2.length := by
  have go : ∀ (l : List (Int × Int × Int)) (s : Int × List (Int × Int)), s.2.length ≤ (l.foldl clsRow s).2.length := by
    intro l
    induction l with
    | nil => intro s; exact Nat.le_refl _
    | cons r l ih => intro s; exact Nat.le_trans (by rw [clsRow_len]; omega) (ih (clsRow s r))
  conv => rhs; rw [← List.take_append_drop i l]
  unfold clsAll
  rw [List.foldl_append]
  exact go _ _

def flatE (es : List (Int × Int)) : List Value := es.flatMap fun e => [.int .i32 e.1, .int .i64 e.2]
theorem flatE_snoc (es : List (Int × Int)) (a b : Int) : flatE (es ++ [(a, b)]) = flatE es ++ [.int .i32 a, .int .i64 b] := by simp [flatE]
theorem flatE_at : ∀ (es : List (Int × Int)) (j : Nat) (h : j < es.length), (flatE es)[j * 2]? = some (.int .i32 es[j].1) ∧ (flatE es)[j * 2 + 1]? = some (.int .i64 es[j].2)
  | e :: es, 0, _ => ⟨rfl, rfl⟩
  | e :: es, j + 1, h => by
    have := flatE_at es j (by simpa using h)
    have e1 : flatE (e :: es) = .int .i32 e.1 :: .int .i64 e.2 :: flatE es := rfl
    rw [e1, show (j + 1) * 2 = j * 2 + 1 + 1 by omega]
    exact this
theorem rdEnt_of {W : World} {base : Nat} {v : Value} {es : List (Int × Int)} (h : W.ownsRow base 75 2 v es.length (flatE es)) (hl : es.length ≤ 140737488355328) : RdEnt W v es := by
  rcases h.2 with ⟨h1, h2⟩ | ⟨g, cap, cur, h1, h2, h3, h4, h5, h6, h7⟩
  · exact ⟨none, 0, by rw [h1, h2], hl, fun j hj => by omega⟩
  · refine ⟨some ⟨g, 0, none⟩, cap, h1, hl, fun j hj => ⟨g, rfl, ?_, ?_⟩⟩
    · rw [cell_of_row _ _ _ _ _ _ h3]
      have := (flatE_at es j hj).1
      rw [← h7, List.getElem?_take_of_lt (by omega)] at this
      simpa using this
    · rw [cell_of_row _ _ _ _ _ _ h3]
      have := (flatE_at es j hj).2
      rw [← h7, List.getElem?_take_of_lt (by omega)] at this
      simpa using this
theorem ownsRow_step {E : List Nat} {B : Nat} {X : Nat → Prop} {W W' : World} {base : Nat} {e : TypeId} {size : Nat} {v : Value} {n : Nat} {xs : List Value} (h : W.ownsRow base e size v n xs) (hs : ItStep E B X W W') (hE : E.contains e = false) : W'.ownsRow base e size v n xs := by
  refine ⟨h.1, h.2.imp id ?_⟩
  rintro ⟨g, cap, cur, h1, h2, h3, h4⟩
  exact ⟨g, cap, cur, h1, h2, hs.other h3 (by simp only [itObj, hE, Bool.false_and]), h4⟩
theorem ownsRow_block {W : World} {base : Nat} {e : TypeId} {size : Nat} {v : Value} {n : Nat} {xs : List Value} (h : W.ownsRow base e size v n xs) {k : Nat} (hk : v.ownBlock = some k) : base ≤ k ∧ ∃ cur, W.heap[k]? = some (.cells cur e (0, 0)) := by
  rcases h.2 with ⟨rfl, _⟩ | ⟨g, cap, cur, rfl, hb, hg, _⟩
  · simp [Value.ownBlock] at hk
  · simp [Value.ownBlock] at hk; subst hk; exact ⟨hb, cur, hg⟩
theorem entryInfo : ∃ i z, Tryd.prog.info? 75 = some i ∧ i.zero = some z ∧ i.size = 2 ∧ i.bytes = 16 ∧ z.cells.size = 2 := by
  have hs : (Tryd.prog.info? 75).map (·.size) = some 2 := by kernel_rfl
  have hb : (Tryd.prog.info? 75).map (·.bytes) = some 16 := by kernel_rfl
  have hz : ((Tryd.prog.info? 75).bind (·.zero)).map (·.cells.size) = some 2 := by kernel_rfl
  cases hie : Tryd.prog.info? 75 with
  | none => rw [hie] at hs; cases hs
  | some ie =>
    rw [hie] at hs hz hb
    simp only [Option.map_some, Option.some.injEq, Option.bind_some] at hs hz hb
    cases hzz : ie.zero with
    | none => rw [hzz] at hz; cases hz
    | some z => rw [hzz] at hz; exact ⟨ie, z, rfl, hzz, hs, hb, by simpa using hz⟩

/-- Left by the end alone. -/
abbrev onlyN (Q : Exit → Act → World → Prop) : Exit → Act → World → Prop := fun e a w => match e with
  | .normal => Q .normal a w
  | _ => False
theorem onlyN_imp {Q : Exit → Act → World → Prop} {e : Exit} {a : Act} {w : World} (h : onlyN Q e a w) : Q e a w := by
  cases e <;> first | exact h | exact h.elim

/-- All but block p lies as it lay. -/
structure ButP (p : Nat) (w w' : World) : Prop where
  os : w'.os = w.os
  tape : w'.tape = w.tape
  output : w'.output = w.output
  size : w.heap.size ≤ w'.heap.size
  block : ∀ k, k < w.heap.size → k ≠ p → w'.heap[k]? = w.heap[k]?

theorem TableIs.of_other {W W' : World} {p : Nat} {g : Nat → Int} (h : TableIs W p g) (hk : ∀ (k : Nat) (c : Array Value) (t : TypeId), W.heap[k]? = some (.cells c t (0, 0)) → (t = 87 ∨ t = 83) → W'.heap[k]? = some (.cells c t (0, 0))) : TableIs W' p g := by
  obtain ⟨T, Ab, bs, cb, base, h1, h2, h3, h4⟩ := h.is
  refine ⟨T, Ab, bs, cb, base, hk _ _ _ h1 (.inl rfl), h2, ⟨h3.1, h3.2.imp id ?_⟩, h4⟩
  rintro ⟨g, cap, cur, k1, k2, k3, k4⟩
  exact ⟨g, cap, cur, k1, k2, hk _ _ _ k3 (.inr rfl), k4⟩

theorem classes_end {w W w2 : World} {p D pc : Nat} {cs : Array Value} {g : Nat → Int} (v6 : Value) (hp : w.heap[p]? = some (.cells cs 47 (0, 0))) (h4 : Below w.heap.size w W) (hbe : Below W.heap.size W w2)
    (hD : W.heap[D]? = some (.deferred (some []))) (hDw : w.heap.size ≤ D) (hle : W.heap.size ≤ pc) (htab : TableIs w2 pc g) :
    ((w2.setCell ⟨p, 0, none⟩ (.pointer (some ⟨pc, 0, none⟩))).setCell ⟨p, 6, none⟩ v6).heap[D]? = some (.deferred (some [])) ∧
    ∀ o', ButP p w (((w2.setCell ⟨p, 0, none⟩ (.pointer (some ⟨pc, 0, none⟩))).setCell ⟨p, 6, none⟩ v6).putObj D o') ∧
      w.heap.size ≤ pc ∧ TableIs (((w2.setCell ⟨p, 0, none⟩ (.pointer (some ⟨pc, 0, none⟩))).setCell ⟨p, 6, none⟩ v6).putObj D o') pc g ∧
      ∃ c6, (((w2.setCell ⟨p, 0, none⟩ (.pointer (some ⟨pc, 0, none⟩))).setCell ⟨p, 6, none⟩ v6).putObj D o').heap[p]? = some (.cells ((cs.setIfInBounds 0 (.pointer (some ⟨pc, 0, none⟩))).setIfInBounds 6 c6) 47 (0, 0)) := by
  have hplt : p < w.heap.size := (Array.getElem?_eq_some_iff.1 hp).1
  have hpW : p < W.heap.size := by have := h4.size; omega
  have hDl : D < W.heap.size := (Array.getElem?_eq_some_iff.1 hD).1
  have hDp : D ≠ p := by omega
  have hpD : p ≠ D := by omega
  have hb : Below w.heap.size w w2 := h4.trans (hbe.mono h4.size)
  have hp2 : w2.heap[p]? = some (.cells cs 47 (0, 0)) := (hb.block p hplt).trans hp
  have hD2 : w2.heap[D]? = some (.deferred (some [])) := (hbe.block D hDl).trans hD
  have hoth : ∀ k, k ≠ p → ((w2.setCell ⟨p, 0, none⟩ (.pointer (some ⟨pc, 0, none⟩))).setCell ⟨p, 6, none⟩ v6).heap[k]? = w2.heap[k]? := fun k hk =>
    (Below.heap_setCell _ _ _ _ hk).trans (Below.heap_setCell _ _ _ _ hk)
  have hpp : ((w2.setCell ⟨p, 0, none⟩ (.pointer (some ⟨pc, 0, none⟩))).setCell ⟨p, 6, none⟩ v6).heap[p]? = some (.cells ((cs.setIfInBounds 0 (.pointer (some ⟨pc, 0, none⟩))).setIfInBounds 6 v6) 47 (0, 0)) :=
    heap_setCell_same _ _ _ _ _ _ (heap_setCell_same _ _ _ _ _ _ hp2)
  refine ⟨(hoth D hDp).trans hD2, fun o' => ⟨⟨hb.os, hb.tape, hb.output, ?_, fun k hk hkp => ?_⟩, Nat.le_trans h4.size hle, htab.of_other fun k c t hk ht => ?_, v6, ?_⟩⟩
  · have := hb.size; simpa [World.setCell] using this
  · exact (World.putObj_heap_other (by omega)).trans ((hoth k hkp).trans (hb.block k hk))
  · have hkD : k ≠ D := fun e => by subst e; rw [hD2] at hk; cases hk
    have hkp : k ≠ p := fun e => by subst e; rw [hp2] at hk; cases hk; rcases ht with h | h <;> cases h
    exact (World.putObj_heap_other hkD).trans ((hoth k hkp).trans hk)
  · exact (World.putObj_heap_other hpD).trans hpp

def clsRows (s : List UInt8) : List (Int × Int × Int) := (textParts s).map entN

set_option maxRecDepth 100000 in
set_option maxHeartbeats 8000000 in
theorem classes_calls (w : World) (p : Nat) (cs : Array Value) (s : List UInt8) (rows : List (Int × Int × Int)) (hrows : rows = clsRows s) (hp : w.heap[p]? = some (.cells cs 47 (0, 0))) (hcs : cs.size = 10) (hsp : SpaceIs w)
    (hs : s.length ≤ 1000000) (ha : ∀ b ∈ s, b.toNat < 128) (hlen : (clsAll rows).2.length ≤ 100000) (hes : ∀ e ∈ (clsAll rows).2, -9223372036854775808 ≤ e.2 ∧ e.2 ≤ 9223372036854775807)
    (hrng : ∀ r ∈ rows, 0 ≤ r.2.2 ∧ r.2.2 ≤ 1000) (hconst : classesBA = txt s) :
    CallsIn Fence.wide 9 Tryd.prog 25 #[.pointer (some ⟨p, 0, none⟩)] w fun e w' => (∃ v, e = .returned v) ∧ ButP p w w' ∧
      ∃ pc, w.heap.size ≤ pc ∧ TableIs w' pc (fun x => lastV (clsAll rows).2 (x : Int)) ∧ ∃ c6, w'.heap[p]? = some (.cells ((cs.setIfInBounds 0 (.pointer (some ⟨pc, 0, none⟩))).setIfInBounds 6 c6) 47 (0, 0)) := by
  have Hrows := Lib.hid hrows
  have Hrng := Lib.hid hrng
  clear hrows hrng
  refine callsIn_of_wp_marks Tryd.func25 rfl trivial ?_ rfl
  simp only [Tryd.ntmps25, List.size_toArray, List.length_cons, List.length_nil, Nat.reduceAdd, Nat.reduceSub, Array.replicate_succ, Array.replicate_zero, List.push_toArray, List.append_toArray, List.nil_append, List.cons_append]
  have hplt : p < w.heap.size := (Array.getElem?_eq_some_iff.1 hp).1
  gi_upto_region 2 with (fail)
  gi_upto_region 3 with (refine ⟨trivial, ?_⟩; gi_at_call 40; refine (callsIn_wide.2 (entries_calls classesBA _)).mono ?_; rintro e w' ⟨rfl, rfl⟩)
  obtain ⟨W0, hW0⟩ : ∃ W0, W0 = ((w.alloc (.cells #[.slice none 0 0] 69)).alloc (.cells #[.int .i32 0] 21)).alloc (.cells #[.string (txt s)] 9) := ⟨_, rfl⟩
  have hsz : W0.heap.size = w.heap.size + 3 := by rw [hW0]; simp
  have bL : Boxed W0 w.heap.size 69 (.slice none 0 0) := by rw [hW0]; exact ((Boxed.new w _ _).alloc _).alloc _
  have bA : Boxed W0 (w.heap.size + 1) 21 (.int .i32 0) := by
    rw [hW0]; have := Boxed.new (w.alloc (.cells #[.slice none 0 0] 69)) 21 (.int .i32 0); rw [World.size_alloc] at this; exact this.alloc _
  have cT : W0.cell? ⟨w.heap.size + 1 + 1, 0, none⟩ = some (.string (txt s)) := by
    rw [hW0]
    have := Boxed.new ((w.alloc (.cells #[.slice none 0 0] 69)).alloc (.cells #[.int .i32 0] 21)) 9 (.string (txt s))
    rw [World.size_alloc, World.size_alloc] at this
    exact this.cell
  have hB0 : Below w.heap.size w W0 := by rw [hW0]; exact (((Below.refl _ _).alloc (Nat.le_refl _) _).alloc (by simp) _).alloc (by simp; omega) _
  rw [← hW0]
  clear hW0
  refine wpIn_iter (gf := 60) (lb := #[.pointer (some ⟨w.heap.size + 1 + 1, 0, none⟩)]) rfl (enters_of Tryd.func60 (by kernel_rfl) rfl)
    (entries1 s (by omega) ha (w.heap.size + 1 + 1) W0.heap.size) (Nat.le_refl _) (by intro x hx; obtain ⟨y, _, rfl⟩ := List.mem_map.1 hx; rfl)
    (fun o1 o2 => ⟨by rw [(Below.refl W0.heap.size W0).alloc (Nat.le_refl _) o1 |>.alloc (by simp) o2 |>.cell (p := ⟨w.heap.size + 1 + 1, 0, none⟩) (by simp; omega)]; exact cT, by simp; omega, by simp, by simp; omega⟩)
    (fun i W => ∃ lv, Boxed W w.heap.size 69 lv ∧ W.ownsRow (w.heap.size + 3) 75 2 lv (clsAll (rows.take i)).2.length (flatE (clsAll (rows.take i)).2) ∧ Boxed W (w.heap.size + 1) 21 (.int .i32 (clsAll (rows.take i)).1) ∧
      Below w.heap.size w W ∧ W0.heap.size ≤ W.heap.size)
    (fun i W h => by obtain ⟨lv, _, _, _, h4, _⟩ := h; exact hsp.below h4 (Nat.le_refl _))
    (fun i W1 W2 h st => by
      obtain ⟨lv, h1, h2, h3, h4, h5⟩ := h
      exact ⟨lv, st.block _ _ h1 (.inl rfl), ownsRow_step h2 st rfl, st.block _ _ h3 (.inl rfl), h4.trans (st.below (by omega) (by omega)), Nat.le_trans h5 st.size⟩)
    ⟨_, bL, World.ownsRow_nil _ _ _ _, bA, hB0, Nat.le_refl _⟩
    (fun i a' W => ∃ Nb : Nat, ∃ h : i < rows.length, W.heap[Nb]? = some (Obj.cells #[.int .i32 rows[i].1, .int .i32 rows[i].2.1, .int .i32 rows[i].2.2] 73 (0, 0)) ∧ w.heap.size + 3 ≤ Nb ∧
      ∃ n0 : Value, ∃ b0 : Value, a' = { tmps := #[.pointer (some ⟨p, 0, none⟩), undef, .pointer (some ⟨w.heap.size, 0, none⟩), .pointer (some ⟨w.heap.size + 1, 0, none⟩), .pointer (some ⟨Nb, 0, none⟩),
        .func (.func 60) #[] #[.pointer (some ⟨w.heap.size + 1 + 1, 0, none⟩)], n0, b0, undef, undef, undef, undef, undef, undef, undef, undef, undef, undef, undef, undef,
        undef, undef, undef, undef, undef, undef, undef, undef, undef, undef, undef, undef, undef, undef, undef, undef, undef, undef], defers := [] })
    (fun i a' W1 W2 h st => by
      obtain ⟨Nb, hi, h1, h2⟩ := h
      exact ⟨Nb, hi, st.block Nb _ h1 (.inl rfl), h2⟩) ?assign ?body ?done
  case assign =>
    intro i h W1 K hi hK
    have hlt : i < rows.length := by rw [Hrows.out]; simpa [clsRows] using h
    have hlt2 : i < (textParts s).length := by simpa using h
    have e : ((textParts s).map rowOf)[i] = #[.agg #[.int .i32 rows[i].1, .int .i32 rows[i].2.1, .int .i32 rows[i].2.2], .bool (entB (textParts s)[i])] := by
      simp only [List.getElem_map, rowOf_ent, Hrows.out, clsRows]
    rw [e]
    obtain ⟨bb, hbb⟩ : ∃ bb, bb = entB (textParts s)[i] := ⟨_, rfl⟩
    rw [← hbb]
    obtain ⟨r0, hr0⟩ : ∃ r0, r0 = rows[i] := ⟨_, rfl⟩
    have hK' := fun a' W' => hK a' W'
    rw [← hr0]
    clear hbb hK
    have HK := Lib.hid hK'
    have Hr0 := Lib.hid hr0
    have h5' : w.heap.size + 3 ≤ W1.heap.size := by obtain ⟨lv, _, _, _, _, h5⟩ := hi; omega
    have Hi := Lib.hid hi
    clear hK' hi e hes hlen hp hsp bL bA cT hB0 hcs ha hs hconst hr0
    gi_wp2
    refine HK.out _ _ (ItKeeps.of_below ((Below.refl W1.heap.size W1).alloc (Nat.le_refl _) _) (Nat.le_refl _)) ?_ ⟨W1.heap.size, hlt, ?_, ?_, _, _, rfl⟩
    · obtain ⟨lv, h1, h2, h3, h4, h5⟩ := Hi.out
      have st : ItStep itE W0.heap.size nil0 W1 (W1.alloc (.cells #[.int .i32 r0.1, .int .i32 r0.2.1, .int .i32 r0.2.2] 73)) := (ItStep.refl _ _ _ _).alloc _
      exact ⟨lv, st.block _ _ h1 (.inl rfl), ownsRow_step h2 st rfl, st.block _ _ h3 (.inl rfl), h4.trans (st.below (by omega) (by omega)), Nat.le_trans h5 st.size⟩
    · rw [← Hr0.out]; exact heap_alloc_new _ _
    · exact h5'
  case body =>
    rintro i h a' W hlt ⟨rr, hr⟩ ⟨lv, h1, h2, h3, h4, h5⟩ ⟨Nb, hi, hN, hNb, n0, b0, rfl⟩
    obtain ⟨st, hst⟩ : ∃ st, st = clsAll (rows.take i) := ⟨_, rfl⟩
    obtain ⟨r0, hr0⟩ : ∃ r0, r0 = rows[i] := ⟨_, rfl⟩
    rw [← hst] at h2 h3
    rw [← hr0] at hN
    have hnext : clsAll (rows.take (i + 1)) = clsRow st r0 := by rw [clsAll_take rows i hi, ← hst, ← hr0]
    have hlen1 : st.2.length + r0.2.1.toNat ≤ 100000 := by
      have := clsAll_mono rows (i + 1) hi
      rw [hnext, clsRow_len] at this
      omega
    have hv0 := Hrng.out r0 (by rw [hr0]; exact List.getElem_mem _)
    have Hst := Lib.hid (And.intro hst (And.intro hr0 hnext))
    obtain ⟨n0', n1, n2⟩ := r0
    have hw64 : wrap64 n2 = n2 := by simp only at hv0; unfold wrap64; omega
    clear hv0
    simp only at hN hlen1
    have cN0 : W.cell? ⟨Nb, 0, none⟩ = some (.int .i32 n0') := by rw [cell_of_row _ _ _ _ _ _ hN]; rfl
    have cA := h3.cell
    have fA := h3.frozen
    obtain ⟨at0, es0⟩ := st
    simp only at cA h2 h3 hlen1
    obtain ⟨W2, hW2⟩ : ∃ W2, W2 = W.setCell ⟨w.heap.size + 1, 0, none⟩ (.int .i32 (wrap32 (at0 + n0'))) := ⟨_, rfl⟩
    have hNA : Nb ≠ w.heap.size + 1 := by omega
    have hN2 : W2.heap[Nb]? = some (.cells #[.int .i32 n0', .int .i32 n1, .int .i32 n2] 73 (0, 0)) := by rw [hW2]; exact (Below.heap_setCell _ _ _ _ hNA).trans hN
    have hL2 : Boxed W2 w.heap.size 69 lv := by rw [hW2]; exact (Below.heap_setCell _ _ _ _ (by simp)).trans h1
    have hA2 : Boxed W2 (w.heap.size + 1) 21 (.int .i32 (wrap32 (at0 + n0'))) := by rw [hW2]; exact h3.set _
    have hr2 : W2.ownsRow (w.heap.size + 3) 75 2 lv es0.length (flatE es0) := by rw [hW2]; exact ownsRow_setCell_below h2 (by simp) _
    have hB2 : Below w.heap.size w W2 := by rw [hW2]; exact h4.setCell (p := ⟨w.heap.size + 1, 0, none⟩) (by simp) _
    have hK2 : ItKeeps itE W0.heap.size nil0 W W2 := by rw [hW2]; exact (ItKeeps.refl _ _ _ _).setCell _ _ (fun _ _ _ hh => by simp at hh; omega)
    have hs2 : W0.heap.size ≤ W2.heap.size := by rw [hW2]; simpa [World.setCell] using h5
    have cN1 : W2.cell? ⟨Nb, 1, none⟩ = some (.int .i32 n1) := by rw [cell_of_row _ _ _ _ _ _ hN2]; rfl
    have HS := Lib.hid (And.intro hes (And.intro hlen (And.intro hp (And.intro hsp (And.intro bL (And.intro bA (And.intro cT (And.intro hB0 (And.intro hs ha)))))))))
    have HR := Lib.hid (And.intro hr (And.intro h1 (And.intro h2 (And.intro h3 (And.intro h4 h5)))))
    clear hes hlen hp hsp bL bA cT hB0 hs ha hconst hr h1 h2 h3 h4 h5 hst hr0 hnext
    have HW2 := Lib.hid hW2
    clear hW2
    gi_upto_region 5 with (fail)
    rw [← HW2.out]
    clear cN0 cA fA hN HR
    gi_upto_region 6 with (fail)
    gi_loopg [14] (n1.toNat + 1) (fun gk v14 wr => ∃ (k : Nat) (lw : Value), v14 = .int .i32 k ∧ k ≤ n1.toNat ∧ Hid (Boxed wr w.heap.size 69 lw ∧
      wr.ownsRow (w.heap.size + 3) 75 2 lw (clsN n2 k (wrap32 (at0 + n0'), es0)).2.length (flatE (clsN n2 k (wrap32 (at0 + n0'), es0)).2) ∧
      Boxed wr (w.heap.size + 1) 21 (.int .i32 (clsN n2 k (wrap32 (at0 + n0'), es0)).1) ∧ ItKeeps itE W0.heap.size nil0 W wr ∧ wr.heap[Nb]? = some (.cells #[.int .i32 n0', .int .i32 n1, .int .i32 n2] 73 (0, 0)) ∧
      Below w.heap.size w wr ∧ W0.heap.size ≤ wr.heap.size ∧ gk = n1.toNat - k + 1))
    case atStart => exact ⟨0, lv, rfl, Nat.zero_le _, hL2, hr2, hA2, hK2, hN2, hB2, hs2, by omega⟩
    case round =>
      clear hL2 hr2 hA2 hK2 hN2 hB2 hs2 cN1 HW2
      obtain ⟨k, lw, rfl, hk, hH⟩ := hrel
      obtain ⟨hL, hr, hA, hK, hN, hB, hs, hgk⟩ := hH.out
      clear hH
      obtain ⟨st, hst⟩ : ∃ st, st = clsN n2 k (wrap32 (at0 + n0'), es0) := ⟨_, rfl⟩
      rw [← hst] at hr hA
      have hl2 : st.2.length = es0.length + k := by rw [hst, clsN_len]
      have hnx : clsN n2 (k + 1) (wrap32 (at0 + n0'), es0) = clsOne n2 st := by rw [hst]; rfl
      have Hnx := Lib.hid (And.intro hst hnx)
      clear hst hnx
      obtain ⟨a1, es1⟩ := st
      simp only at hr hA hl2
      by_cases hlt1 : k < n1.toNat
      · have hlt2 : (k : Int) < n1 := by omega
        have cL := hL.cell
        have fL := hL.frozen
        have cA := hA.cell
        have cN2 : wr.cell? ⟨Nb, 2, none⟩ = some (.int .i32 n2) := by rw [cell_of_row _ _ _ _ _ _ hN]; rfl
        obtain ⟨ie, ze, hie, hze, i1, i2, i3⟩ := entryInfo
        have hrA := ownsRow_alloc hr (.cells #[.int .i32 a1, .int .i64 n2] 75)
        have hnL : some w.heap.size ≠ lw.ownBlock := fun e => by have := (hr.lt _ e.symm).1; omega
        have hnA : some (w.heap.size + 1) ≠ lw.ownBlock := fun e => by have := (hr.lt _ e.symm).1; omega
        have hl3 : es1.length + 1 ≤ 100000 := by omega
        have Hl2 := Lib.hid hl2
        have Hg := Lib.hid hgk
        clear hgk hl2
        gi_upto_region 8 with (gi_at_builtin; refine wpListIn_append_own _ rfl _ _ 69 rfl (w.heap.size + 3) 75 ie ze 2 16 Tryd.underlying69 hie hze i1 i2 i3 (by omega) lw es1.length (flatE es1) rfl hrA ⟨wr.heap.size, 0, none⟩ 1 1 [.int .i32 a1, .int .i64 n2] rfl rfl (by intro j u hu; rw [Addr.add_mid, cell_of_row _ _ _ _ _ _ (heap_alloc_new _ _)]; simpa using hu) (by intro u hu; simp at hu; rcases hu with rfl | rfl <;> rfl) (by unfold maxLen; omega) (by omega) (by simp; omega) ?_; intro v' w' hown hgrow _; obtain ⟨g', cap', rfl, hg1, _⟩ := hown.form (by omega); have hL' := (hL.alloc (.cells #[.int .i32 a1, .int .i64 n2] 75)).kept hgrow hnL; have hA' := (hA.alloc (.cells #[.int .i32 a1, .int .i64 n2] 75)).kept hgrow hnA; have cL' := hL'.cell; have fL' := hL'.frozen)
        obtain ⟨W4, hW4⟩ : ∃ W4, W4 = w'.setCell ⟨w.heap.size, 0, none⟩ (.slice (some ⟨g', 0, none⟩) (es1.length + 1) cap') := ⟨_, rfl⟩
        have hA4 : Boxed W4 (w.heap.size + 1) 21 (.int .i32 a1) := by rw [hW4]; exact (Below.heap_setCell _ _ _ _ (by simp)).trans hA'
        have hL4 : Boxed W4 w.heap.size 69 (.slice (some ⟨g', 0, none⟩) (es1.length + 1) cap') := by rw [hW4]; exact hL'.set _
        have hr4 : W4.ownsRow (w.heap.size + 3) 75 2 (.slice (some ⟨g', 0, none⟩) (es1.length + 1) cap') (es1.length + 1) (flatE es1 ++ [.int .i32 a1, .int .i64 n2]) := by rw [hW4]; exact ownsRow_setCell_below hown (by simp) _
        have hB4 : Below w.heap.size w W4 := by
          rw [hW4]; exact ((hB.alloc hB.size _).grown hgrow (by simp; have := hB.size; omega) (fun k hk => by have := (hr.lt k hk).1; omega)).setCell (p := ⟨w.heap.size, 0, none⟩) (Nat.le_refl _) _
        have hK4 : ItKeeps itE W0.heap.size nil0 W W4 := by
          rw [hW4]
          exact ((hK.alloc _).trans (ItKeeps.of_grown hgrow (fun k o hk hko hio hbk => by
            obtain ⟨_, cur, hcur⟩ := ownsRow_block hrA hk
            rw [hcur] at hko; cases hko; simp [itObj, itE] at hio))).setCell _ _ (fun _ _ _ hh => by simp at hh; omega)
        have hs4 : W0.heap.size ≤ W4.heap.size := by
          have := hgrow.size
          have e : W4.heap.size = w'.heap.size := by rw [hW4]; simp [World.setCell]
          simp at this; omega
        have hN4 : W4.heap[Nb]? = some (.cells #[.int .i32 n0', .int .i32 n1, .int .i32 n2] 73 (0, 0)) := by
          have hNlt : Nb < wr.heap.size := (Array.getElem?_eq_some_iff.1 hN).1
          rw [hW4]
          refine (Below.heap_setCell _ _ _ _ (by simp; omega)).trans ((hgrow.block Nb (by simp; omega) (fun e => ?_)).trans ((Below.heap_alloc _ _ _ hNlt).trans hN))
          obtain ⟨_, cur, hcur⟩ := ownsRow_block hr e.symm
          rw [hN] at hcur; cases hcur
        rw [← hW4]
        have HW4 := Lib.hid hW4
        have cA4 := hA4.cell
        have fA4 := hA4.frozen
        have HX := Lib.hid (And.intro hL4 (And.intro hr4 (And.intro hB4 (And.intro hK4 (And.intro hs4 hN4)))))
        clear hW4 cL fL cA cL' fL' cN2 hL hr hA hK hN hB hs hrA hown hgrow hL' hA' hL4 hr4 hB4 hK4 hs4 hN4 hnL hnA hie hze i1 i2 i3
        gi_wp2
        gi_roundg (n1.toNat - k)
        case measure => rw [Hg.out]; omega
        case rel =>
          obtain ⟨hL4, hr4, hB4, hK4, hs4, hN4⟩ := HX.out
          refine ⟨k + 1, .slice (some ⟨g', 0, none⟩) (es1.length + 1) cap', by go_num, by omega, ?_, ?_, ?_, ?_, ?_, ?_, ?_, by omega⟩
          · exact (Below.heap_setCell _ _ _ _ (by simp)).trans hL4
          · rw [Hnx.out.2]
            simp only [clsOne, List.length_append, List.length_cons, List.length_nil, flatE_snoc]
            exact ownsRow_setCell_below hr4 (by simp) _
          · rw [Hnx.out.2]
            exact hA4.set _
          · exact hK4.setCell _ _ (fun _ _ _ hh => by simp at hh; omega)
          · exact (Below.heap_setCell _ _ _ _ (by simp; omega)).trans hN4
          · exact hB4.setCell (p := ⟨w.heap.size + 1, 0, none⟩) (by simp) _
          · simpa [World.setCell] using hs4
      · have hke : k = n1.toNat := by omega
        have hge : n1 ≤ (k : Int) := by omega
        have hn : clsAll (rows.take (i + 1)) = (a1, es1) := by
          rw [Hst.out.2.2]
          show clsN n2 n1.toNat (wrap32 (at0 + n0'), es0) = _
          rw [← hke]; exact Hnx.out.1.symm
        have HX := Lib.hid (And.intro hL (And.intro hr (And.intro hA (And.intro hK (And.intro hB hs)))))
        have Hn := Lib.hid hn
        clear hL hr hA hK hB hs hN hl2 hgk hn hke hlt1 hk
        gi_wp2
        refine ⟨HX.out.2.2.2.1, lw, HX.out.1, ?_, ?_, HX.out.2.2.2.2.1, HX.out.2.2.2.2.2⟩
        · rw [Hn.out]; exact HX.out.2.1
        · rw [Hn.out]; exact HX.out.2.2.1
  case done =>
    rintro W hlt ⟨lv, h1, h2, h3, h4, h5⟩ hD
    have e : ((textParts s).map rowOf).length = rows.length := by rw [Hrows.out]; simp [clsRows]
    rw [e, List.take_length] at h2 h3
    clear e
    obtain ⟨es, hes'⟩ : ∃ es, es = (clsAll rows).2 := ⟨_, rfl⟩
    rw [← hes'] at h2 hlen
    have hes2 : ∀ e ∈ es, -9223372036854775808 ≤ e.2 ∧ e.2 ≤ 9223372036854775807 := by rw [hes']; exact hes
    have hrd : RdEnt W lv es := rdEnt_of h2 (by omega)
    have hrd' : RdEnt W.drew lv es := hrd
    obtain ⟨A1, c1, rfl, _, _⟩ := hrd
    have hpW : W.heap[p]? = some (.cells cs 47 (0, 0)) := (h4.block p hplt).trans hp
    have hpl : p < W.heap.size := by have := h4.size; omega
    have hLl : w.heap.size < W.heap.size := h1.lt
    obtain ⟨x0, hx0⟩ : ∃ x0, cs[0]? = some x0 := ⟨cs[0], Array.getElem?_eq_getElem (by omega)⟩
    obtain ⟨x6, hx6⟩ : ∃ x6, cs[6]? = some x6 := ⟨cs[6], Array.getElem?_eq_getElem (by omega)⟩
    have cL := h1.cell
    have cp0 : W.cell? ⟨p, 0, none⟩ = some x0 := by rw [cell_of_row _ _ _ _ _ _ hpW]; exact hx0
    have cp6 : W.cell? ⟨p, 6, none⟩ = some x6 := by rw [cell_of_row _ _ _ _ _ _ hpW]; exact hx6
    have fp : ∀ i, W.frozen? ⟨p, i, none⟩ = false := fun i => frozen_of_row _ _ _ _ _ hpW
    have hmix : Tryd.prog.follows .mixedOrders = true := by kernel_rfl
    have HS := Lib.hid (And.intro hes (And.intro hes' (And.intro hpW (And.intro hp (And.intro hx0 (And.intro hx6 (And.intro h4 (And.intro hD (And.intro hpl hcs)))))))))
    have Hrd := Lib.hid (And.intro hrd' hes2)
    have Hfp := Lib.hid fp
    clear hes hes' hpW hp hx0 hx6 h4 hD hrd' hes2 h1 h2 h3 h5 hlen hsp bL bA cT hB0 hs ha hconst fp
    gi_upto_region 10 with (fail)
    refine wpIn_mono (Q := onlyN _) ?_ (fun e a w h => onlyN_imp h)
    gi_region_with (first
      | (refine ⟨trivial, ?_⟩; gi_at_call 41; refine (callsIn_wide.2 (sbuild_calls _ es _ Hrd.out.1 Hrd.out.2)).mono ?_; rintro e w2 ⟨pc, rfl, hle, hbe, htab⟩; have cL2 := (hbe.cell (p := ⟨w.heap.size, 0, none⟩) hLl).trans cL; have cp02 := (hbe.cell (p := ⟨p, 0, none⟩) HS.out.2.2.2.2.2.2.2.2.1).trans cp0; have cp62 := (hbe.cell (p := ⟨p, 6, none⟩) HS.out.2.2.2.2.2.2.2.2.1).trans cp6; have fp02 := (hbe.frozen (p := ⟨p, 0, none⟩) HS.out.2.2.2.2.2.2.2.2.1).trans (Hfp.out 0); have fp62 := (hbe.frozen (p := ⟨p, 6, none⟩) HS.out.2.2.2.2.2.2.2.2.1).trans (Hfp.out 6); have HW2 := Lib.hid (And.intro hle (And.intro hbe htab)); clear hle hbe htab))
    all_goals
      have hend := classes_end (.int .i64 (es.length : Int)) HS.out.2.2.2.1 HS.out.2.2.2.2.2.2.1 (W := W) ⟨HW2.out.2.1.os, HW2.out.2.1.tape, HW2.out.2.1.output, HW2.out.2.1.size, HW2.out.2.1.block⟩ HS.out.2.2.2.2.2.2.2.1 (by omega) HW2.out.1 HW2.out.2.2
      rw [hsz] at hend
      refine ⟨by simp, .inl ⟨_, _, rfl, run_takeDeferred hend.1, ?_⟩⟩
      obtain ⟨k1, k2, k3, k4⟩ := hend.2 (.deferred none)
      refine ⟨_, results_none rfl _ _ _, ⟨_, rfl⟩, k1, pc, k2, ?_, k4⟩
      rw [← HS.out.2.1]
      exact k3
end Go.Proofs.YtejikiebhjiocaaDoor
