/- (*ucd.Tables).parts: the walk. -/
import Derived.Test.YtejikiebhjiocaaDoorPd
set_option linter.unusedVariables false
set_option linter.unusedSimpArgs false
namespace Go.Proofs.YtejikiebhjiocaaDoor
open Go.RowKit Go.Shelf
attribute [local go_sem] Oper.semAt_some
attribute [local go_sem ↓] appP_eq appE_eq

def prRows (s : List UInt8) : List ((Int × Int × Int) × Bool) := (textParts s).map fun q => (entN q, entB q)
def sgRows (s : List UInt8) : List (Int × Int × Int) := (textParts s).map entN

theorem RdEnt.below {W W' : World} {n : Nat} {v : Value} {es : List (Int × Int)} (h : RdEnt W v es) (hB : Below n W W') (hn : W.heap.size ≤ n) : RdEnt W' v es := by
  obtain ⟨A, c, rfl, hl, hr⟩ := h
  refine ⟨A, c, rfl, hl, fun j hj => ?_⟩
  obtain ⟨g, e, k1, k2⟩ := hr j hj
  exact ⟨g, e, (hB.cell (p := ⟨g, j * 2, none⟩) (Nat.lt_of_lt_of_le (World.block_lt_of_cell? _ _ k1) hn)).trans k1, (hB.cell (p := ⟨g, j * 2 + 1, none⟩) (Nat.lt_of_lt_of_le (World.block_lt_of_cell? _ _ k2) hn)).trans k2⟩

theorem SpaceIs.chg {w W : World} {p mj ms : Nat} {cs : Array Value} {t : TypeId} (h : SpaceIs w) (hp : w.heap[p]? = some (.cells cs t (0, 0))) (hcs : cs.size = 10) {S1 S2 : Value → Option Value} {k1 k2 : Nat} (h1 : IsMap Tryd.prog k1 w mj S1) (h2 : IsMap Tryd.prog k2 w ms S2) (hc : Chg p mj ms w W) : SpaceIs W := by
  unfold SpaceIs Lib.TabIs World.var? at *
  cases hg : (Tryd.prog.globalNamed "strings.asciiSpace") with
  | none => rw [hg] at h; simp at h
  | some g =>
    rw [hg] at h
    simp only [Option.bind_some] at h ⊢
    cases hb : w.heap[g]? with
    | none => rw [hb] at h; simp at h
    | some o =>
      have hgp : g ≠ p := fun e => by
        subst e; rw [hp] at h
        simp only [Option.some.injEq] at h
        have := congrArg Array.size h
        rw [hcs] at this
        simp [Lib.asciiSpaceTab] at this
      have hgj : g ≠ mj := fun e => by subst e; obtain ⟨es, c, hm, _⟩ := h1; rw [hm] at h; simp at h
      have hgs : g ≠ ms := fun e => by subst e; obtain ⟨es, c, hm, _⟩ := h2; rw [hm] at h; simp at h
      rw [hc.block g (Array.getElem?_eq_some_iff.1 hb).1 hgp hgj hgs]; exact h

theorem SsOf_nil : SsOf [] = fun _ => none := by
  funext v
  unfold SsOf
  split <;> simp
theorem alloc_at {W : World} {o : Obj} {n : Nat} (h : n = W.heap.size) : (W.alloc o).heap[n]? = some o := by subst h; exact heap_alloc_new _ _

/-- A call of a Go function with one argument, by its contract; nothing of the argument's text is looked at. -/
theorem wpListIn_call_one {n : Nat} {P : Program} {ops : Array Oper} {rest : List Oper} {o : Oper} {a : Act} {w : World} {Q : Exit → Act → World → Prop} (hg : o.guard = none) (f : FuncId) (x : Operand) (t : TypeId)
    (hop : o.op = .call { callee := .value (.func f), args := #[x], argTypes := #[t] }) (v : Value) (hx : a.eval x = v) (ef : (callFunc f #[v]).run P w = .ok (.enter f #[v]) w) (v' : Value) (w' : World)
    (hc : CallsIn Fence.wide (n - 1) P f #[v] w fun e w'' => e = .returned v' ∧ w'' = w') (h : wpListIn Fence.wide n P ops Q rest (a.put o.dst v') w') : wpListIn Fence.wide n P ops Q (o :: rest) a w := by
  refine wpListIn_plain hg fun K hK' => ?_
  unfold Oper.wpIn
  refine ⟨fun _ _ => trivial, ?_⟩
  rw [Oper.semAt_plain Fence.wide _ _ (by rw [hop]; intro c hc'; cases hc')]
  have e : (execOp a.eval o).run P w = .ok (.enter f #[v]) w := by
    have hf : a.eval (.func f) = .func (.func f) #[] #[] := rfl
    simp [execOp, hop, resolve, invoke, hx, hf, ef, Sem.run_bind, Result.andThen, Deferred.ofValue]
  rw [e, Oper.uponIn_enter]
  refine ⟨fun h' => (by cases h'), hc.mono ?_⟩
  rintro e w'' ⟨rfl, rfl⟩
  exact hK' _ _ h

/-- The cells of the counts. -/
theorem cells78 {W5 w7 w8 : World} {p : Nat} {cs : Array Value} {v1 v2 : Value} (hp : W5.heap[p]? = some (.cells cs 47 (0, 0))) (hcs : cs.size = 10) (h7 : Below W5.heap.size W5.drew w7) (h8 : Below w7.heap.size w7 w8) :
    ∃ x7 x8, ((w8.setCell ⟨p, 1, none⟩ v1).setCell ⟨p, 2, none⟩ v2).cell? ⟨p, 7, none⟩ = some x7 ∧ ((w8.setCell ⟨p, 1, none⟩ v1).setCell ⟨p, 2, none⟩ v2).cell? ⟨p, 8, none⟩ = some x8 ∧
      ((w8.setCell ⟨p, 1, none⟩ v1).setCell ⟨p, 2, none⟩ v2).frozen? ⟨p, 7, none⟩ = false ∧ ((w8.setCell ⟨p, 1, none⟩ v1).setCell ⟨p, 2, none⟩ v2).frozen? ⟨p, 8, none⟩ = false := by
  have hl : p < W5.heap.size := (Array.getElem?_eq_some_iff.1 hp).1
  have hp8 : w8.heap[p]? = some (.cells cs 47 (0, 0)) := (h8.block p (Nat.lt_of_lt_of_le hl h7.size)).trans ((h7.block p hl).trans hp)
  have hp9 : ((w8.setCell ⟨p, 1, none⟩ v1).setCell ⟨p, 2, none⟩ v2).heap[p]? = some (.cells ((cs.setIfInBounds 1 v1).setIfInBounds 2 v2) 47 (0, 0)) := heap_setCell_same _ _ _ _ _ _ (heap_setCell_same _ _ _ _ _ _ hp8)
  refine ⟨((cs.setIfInBounds 1 v1).setIfInBounds 2 v2)[7]'(by simp; omega), ((cs.setIfInBounds 1 v1).setIfInBounds 2 v2)[8]'(by simp; omega), ?_, ?_, frozen_of_row _ _ _ _ _ hp9, frozen_of_row _ _ _ _ _ hp9⟩
  · rw [cell_of_row _ _ _ _ _ _ hp9]; exact Array.getElem?_eq_getElem _
  · rw [cell_of_row _ _ _ _ _ _ hp9]; exact Array.getElem?_eq_getElem _

set_option maxRecDepth 100000 in
set_option maxHeartbeats 8000000 in
theorem parts_calls (w : World) (p mj ms : Nat) (cs0 : Array Value) (s s2 : List UInt8) (rows : List ((Int × Int × Int) × Bool)) (rows2 : List (Int × Int × Int)) (hrows : rows = prRows s) (hrows2 : rows2 = sgRows s2)
    (hp : w.heap[p]? = some (.cells cs0 47 (0, 0))) (hcs : cs0.size = 10) (h3 : cs0[3]? = some (.slice none 0 0)) (h4 : cs0[4]? = some (.map (some mj))) (h5 : cs0[5]? = some (.map (some ms))) (h9 : cs0[9]? = some (.int .i64 0))
    (hmj : IsMap Tryd.prog 77 w mj (fun _ => none)) (hms : IsMap Tryd.prog 21 w ms (fun _ => none)) (hpj : p ≠ mj) (hps : p ≠ ms) (hjs : mj ≠ ms) (hsp : SpaceIs w)
    (hs : s.length ≤ 1000000) (ha : ∀ b ∈ s, b.toNat < 128) (hs2 : s2.length ≤ 1000000) (ha2 : ∀ b ∈ s2, b.toNat < 128) (hl1 : rows.length ≤ 100000) (hl2 : rows2.length ≤ 100000)
    (hr1 : ∀ r ∈ rows, InI32 r.1.2.1 ∧ InI32 r.1.2.2) (hr2 : ∀ r ∈ rows2, InI32 r.2.1) (hes1 : ∀ e ∈ (psAll rows).es, -9223372036854775808 ≤ e.2 ∧ e.2 ≤ 9223372036854775807) (hes2 : ∀ e ∈ (sgAll rows2).2, -9223372036854775808 ≤ e.2 ∧ e.2 ≤ 9223372036854775807) (hconst : pairsBA = txt s) (hconst2 : singlesBA = txt s2) :
    CallsIn Fence.wide 9 Tryd.prog 26 #[.pointer (some ⟨p, 0, none⟩)] w fun e w' => (∃ v, e = .returned v) ∧ PartsPost w w' p mj ms cs0 (psAll rows) (sgAll rows2).2 := by
  refine callsIn_of_wp_marks Tryd.func26 rfl trivial ?_ rfl
  simp only [Tryd.ntmps26, List.size_toArray, List.length_cons, List.length_nil, Nat.reduceAdd, Nat.reduceSub, Array.replicate_succ, Array.replicate_zero, List.push_toArray, List.append_toArray, List.nil_append, List.cons_append]
  have hplt : p < w.heap.size := (Array.getElem?_eq_some_iff.1 hp).1
  have hjlt := hmj.lt
  have hslt := hms.lt
  have HA := Lib.hid (And.intro hp (And.intro hcs (And.intro h3 (And.intro h4 (And.intro h5 (And.intro h9 (And.intro hmj (And.intro hms hsp))))))))
  have Hes1 := Lib.hid hes1
  have Hes2 := Lib.hid hes2
  clear hes1 hes2
  have Hr1 := Lib.hid hr1
  have Hr2 := Lib.hid hr2
  have Hc2 := Lib.hid hconst2
  have Ha := Lib.hid ha
  have Ha2 := Lib.hid ha2
  have Hrows := Lib.hid hrows
  have Hrows2 := Lib.hid hrows2
  clear hp hcs h3 h4 h5 h9 hmj hms hsp hr1 hr2 hconst2 ha ha2 hrows hrows2
  gi_upto_region 3 with (fail)
  refine wpIn_region_lit ?_
  refine wpListIn_call_one rfl 40 _ _ rfl (.string pairsBA) rfl (enters_of Tryd.func40 (by kernel_rfl) rfl _ _) _ _ (callsIn_wide.2 (entries_calls pairsBA _)) ?_
  refine wpListIn_nil ?_
  rw [hconst]
  clear hconst
  gi_upto_region 4 with (fail)
  obtain ⟨W0, hW0⟩ : ∃ W0, W0 = (((((w.alloc (.cells #[.pointer (some ⟨p, 0, none⟩)] 23)).alloc (.cells #[.slice none 0 0] 69)).alloc (.cells #[.slice none 0 0] 69)).alloc (.cells #[.int .i32 0] 21)).alloc (.cells #[.string (txt s)] 9)) := ⟨_, rfl⟩
  have hsz : W0.heap.size = w.heap.size + 5 := by rw [hW0]; simp
  have hB0 : Below w.heap.size w W0 := by rw [hW0]; exact (((((Below.refl _ _).alloc (Nat.le_refl _) _).alloc (by simp) _).alloc (by simp; omega) _).alloc (by simp; omega) _).alloc (by simp; omega) _
  have hb0 : W0.heap[w.heap.size]? = some (.cells #[.pointer (some ⟨p, 0, none⟩)] 23 (0, 0)) := by
    rw [hW0]; exact (Below.heap_alloc _ _ _ (by simp <;> omega)).trans ((Below.heap_alloc _ _ _ (by simp <;> omega)).trans ((Below.heap_alloc _ _ _ (by simp <;> omega)).trans ((Below.heap_alloc _ _ _ (by simp)).trans (alloc_at rfl))))
  have hb1 : W0.heap[w.heap.size + 1]? = some (.cells #[.slice none 0 0] 69 (0, 0)) := by
    rw [hW0]; exact (Below.heap_alloc _ _ _ (by simp <;> omega)).trans ((Below.heap_alloc _ _ _ (by simp <;> omega)).trans ((Below.heap_alloc _ _ _ (by simp)).trans (alloc_at (by simp))))
  have hb2 : W0.heap[w.heap.size + 2]? = some (.cells #[.slice none 0 0] 69 (0, 0)) := by
    rw [hW0]; exact (Below.heap_alloc _ _ _ (by simp <;> omega)).trans ((Below.heap_alloc _ _ _ (by simp)).trans (alloc_at (by simp)))
  have hb3 : W0.heap[w.heap.size + 3]? = some (.cells #[.int .i32 0] 21 (0, 0)) := by
    rw [hW0]; exact (Below.heap_alloc _ _ _ (by simp)).trans (alloc_at (by simp))
  have hb4 : W0.heap[w.heap.size + 4]? = some (.cells #[.string (txt s)] 9 (0, 0)) := by
    rw [hW0]; exact alloc_at (by simp)
  have hPM : PM w W0 W0 p mj ms w.heap.size cs0 (.slice none 0 0) 0 [] [] [] [] := by
    obtain ⟨hp, hcs, h3, h4, h5, h9, hmj, hms, hsp⟩ := HA.out
    exact ⟨hb0, ⟨_, hb1, World.ownsRow_nil _ _ _ _⟩, hb2, hb3, ⟨cs0, _, 0, (hB0.block _ hplt).trans hp, hcs, h3, h4, h5, h9, rfl, World.ownsRow_nil _ _ _ _⟩,
      hmj.of_heap (hB0.block _ hjlt), by rw [SsOf_nil]; exact hms.of_heap (hB0.block _ hslt), ⟨hB0.os, hB0.tape, hB0.output, hB0.size, fun k hk _ _ _ => hB0.block k hk⟩, by omega, ItKeeps.refl _ _ _ _, rfl, hplt, hjlt, hslt, hpj, hps, hjs⟩
  have cT : W0.cell? ⟨w.heap.size + 4, 0, none⟩ = some (.string (txt s)) := by
    have : Boxed W0 (w.heap.size + 4) 9 (.string (txt s)) := hb4
    exact this.cell
  have hcg : ∀ W, Chg p mj ms w W → SpaceIs W := fun W hc => by
    obtain ⟨hp, hcs, h3, h4, h5, h9, hmj, hms, hsp⟩ := HA.out
    exact hsp.chg hp hcs hmj hms hc
  rw [← hW0]
  clear hW0 hb0 hb1 hb2 hb3 hb4
  refine wpIn_iter (gf := 60) (lb := #[.pointer (some ⟨w.heap.size + 4, 0, none⟩)]) rfl (enters_of Tryd.func60 (by kernel_rfl) rfl)
    (entries1 s (by omega) Ha.out (w.heap.size + 4) (w.heap.size + 5)) (by omega) (by intro x hx; obtain ⟨y, _, rfl⟩ := List.mem_map.1 hx; rfl)
    (fun o1 o2 => ⟨by rw [(Below.refl W0.heap.size W0).alloc (Nat.le_refl _) o1 |>.alloc (by simp) o2 |>.cell (p := ⟨w.heap.size + 4, 0, none⟩) (by simp; omega)]; exact cT, by simp; omega, by simp, by simp; omega⟩)
    (fun i W => PM w W W p mj ms w.heap.size cs0 (.slice none 0 0) (psAll (rows.take i)).pos (psAll (rows.take i)).pairs (psAll (rows.take i)).es (psAll (rows.take i)).jl (psAll (rows.take i)).sl)
    (fun i W h => hcg _ h.chg)
    (fun i W1 W2 h st => h.step st)
    hPM
    (fun i a' W => ∃ Nb : Nat, ∃ h : i < rows.length, W.heap[Nb]? = some (Obj.cells #[.int .i32 rows[i].1.1, .int .i32 rows[i].1.2.1, .int .i32 rows[i].1.2.2] 73 (0, 0)) ∧ w.heap.size + 5 ≤ Nb ∧
      ∃ n0 : Value, ∃ b0 : Value, a' = { tmps := #[.pointer (some ⟨p, 0, none⟩), .pointer (some ⟨w.heap.size, 0, none⟩), .pointer (some ⟨w.heap.size + 1, 0, none⟩), .pointer (some ⟨w.heap.size + 2, 0, none⟩), .pointer (some ⟨w.heap.size + 3, 0, none⟩), .pointer (some ⟨Nb, 0, none⟩), .bool (rows[i].2), undef, undef, .func (.func 60) #[] #[.pointer (some ⟨w.heap.size + 4, 0, none⟩)], n0, b0, undef, undef, undef, undef, undef, undef, undef, undef, undef, undef, undef, undef, undef, undef, undef, undef, undef, undef, undef, undef, undef, undef, undef, undef, undef, undef, undef, undef, undef, undef, undef, undef, undef, undef, undef, undef, undef, undef, undef, undef, undef, undef, undef, undef, undef, undef, undef, undef, undef, undef, undef, undef, undef, undef, undef, undef, undef, undef, undef, undef, undef, undef, undef, undef, undef, undef, undef, undef, undef, undef, undef, undef, undef, undef, undef, undef, undef, undef, undef, undef, undef, undef, undef, undef, undef, undef, undef, undef, undef, undef], defers := [] })
    (fun i a' W1 W2 h st => by
      obtain ⟨Nb, hi, h1, h2⟩ := h
      exact ⟨Nb, hi, st.block Nb _ h1 (.inl rfl), h2⟩) ?assign ?body ?done
  case assign =>
    intro i h W1 K hi hK
    have hlt : i < rows.length := by rw [Hrows.out]; simpa [prRows] using h
    have hlt2 : i < (textParts s).length := by simpa using h
    have e : ((textParts s).map rowOf)[i] = #[.agg #[.int .i32 rows[i].1.1, .int .i32 rows[i].1.2.1, .int .i32 rows[i].1.2.2], .bool rows[i].2] := by
      simp only [List.getElem_map, rowOf_ent, Hrows.out, prRows]
    rw [e]
    obtain ⟨r0, hr0⟩ : ∃ r0, r0 = rows[i] := ⟨_, rfl⟩
    have hK' := fun a' W' => hK a' W'
    rw [← hr0]
    clear hK
    have HK := Lib.hid hK'
    have Hr0 := Lib.hid hr0
    have h5' : w.heap.size + 5 ≤ W1.heap.size := hi.sz
    have Hi := Lib.hid hi
    clear hK' hi e hr0 hcg hPM cT hB0
    gi_wp2
    refine HK.out _ _ (ItKeeps.of_below ((Below.refl W1.heap.size W1).alloc (Nat.le_refl _) _) (Nat.le_refl _)) ?_ ⟨W1.heap.size, hlt, ?_, ?_, .agg #[.int .i32 r0.1.1, .int .i32 r0.1.2.1, .int .i32 r0.1.2.2], .bool r0.2, ?_⟩
    · exact Hi.out.step ((ItStep.refl _ _ _ _).alloc _)
    · rw [← Hr0.out]; exact heap_alloc_new _ _
    · exact h5'
    · rw [← Hr0.out]
  case body =>
    rintro i h a' W hlt ⟨rr, hr⟩ hPM ⟨Nb, hi, hN, hNb, n0, b0, rfl⟩
    obtain ⟨st, hst⟩ : ∃ st, st = psAll (rows.take i) := ⟨_, rfl⟩
    obtain ⟨r0, hr0⟩ : ∃ r0, r0 = rows[i] := ⟨_, rfl⟩
    rw [← hst] at hPM
    rw [← hr0] at hN ⊢
    have hnext : psAll (rows.take (i + 1)) = psRow st r0 := by rw [psAll_take rows i hi, ← hst, ← hr0]
    have hlen : st.pairs.length ≤ 100000 ∧ st.es.length ≤ 100000 ∧ st.sl.length ≤ 100000 ∧ st.es.length = st.pairs.length := by
      have := psAll_len (rows.take i)
      rw [← hst, List.length_take] at this
      omega
    have hrng := Hr1.out r0 (by rw [hr0]; exact List.getElem_mem _)
    rw [hnext]
    have Hnx := Lib.hid (And.intro hst (And.intro hr0 hnext))
    have Hrr := Lib.hid hr
    clear hst hr0 hnext hr hcg cT hB0
    obtain ⟨⟨n0', n1, n2⟩, ob⟩ := r0
    obtain ⟨pos, pairs, es, jl, sl⟩ := st
    simp only at hN hPM hlen hrng
    simp only [psRow]
    have cN0 : W.cell? ⟨Nb, 0, none⟩ = some (.int .i32 n0') := by rw [cell_of_row _ _ _ _ _ _ hN]; rfl
    have cA := hPM.ps.cell
    have fA := hPM.ps.frozen
    obtain ⟨pos', hpos'⟩ : ∃ pos', pos' = wrap32 (pos + n0') := ⟨_, rfl⟩
    obtain ⟨W2, hW2⟩ : ∃ W2, W2 = W.setCell ⟨w.heap.size + 3, 0, none⟩ (.int .i32 (wrap32 (pos + n0'))) := ⟨_, rfl⟩
    have H2 : PM w W W2 p mj ms w.heap.size cs0 (.slice none 0 0) pos' pairs es jl sl := by rw [hW2, hpos']; exact hPM.setPos _
    have hN2 : W2.heap[Nb]? = some (.cells #[.int .i32 n0', .int .i32 n1, .int .i32 n2] 73 (0, 0)) := by rw [hW2]; exact (Below.heap_setCell _ _ _ _ (by simp; omega)).trans hN
    rw [← hpos']
    have Hp := Lib.hid hpos'
    have HPM := Lib.hid hPM
    have HW2 := Lib.hid hW2
    have Hln := Lib.hid hlen
    have Hrg := Lib.hid hrng
    have HN2 := Lib.hid hN2
    have HH2 := Lib.hid H2
    clear hpos' hPM hW2 hlen hrng hN hN2 H2
    gi_upto_region 7 with (fail)
    rw [← HW2.out]
    clear cN0 cA fA
    have cN1 : W2.cell? ⟨Nb, 1, none⟩ = some (.int .i32 n1) := by rw [cell_of_row _ _ _ _ _ _ HN2.out]; rfl
    have cN2 : W2.cell? ⟨Nb, 2, none⟩ = some (.int .i32 n2) := by rw [cell_of_row _ _ _ _ _ _ HN2.out]; rfl
    gi_upto_region 8 with (fail)
    obtain ⟨W3, hW3⟩ : ∃ W3, W3 = W2.alloc (.cells #[.int .i32 n1, .int .i32 n2] 77) := ⟨_, rfl⟩
    have H3 : PM w W W3 p mj ms w.heap.size cs0 (.slice none 0 0) pos' pairs es jl sl := by rw [hW3]; exact HH2.out.grow ((Below.refl _ _).alloc (Nat.le_refl _) _)
    obtain ⟨Tw, hTw⟩ : ∃ Tw, Tw = W2.heap.size := ⟨_, rfl⟩
    have hT3 : W3.heap[Tw]? = some (.cells #[.int .i32 n1, .int .i32 n2] 77 (0, 0)) := by rw [hW3, hTw]; exact heap_alloc_new _ _
    have hN3 : W3.heap[Nb]? = some (.cells #[.int .i32 n0', .int .i32 n1, .int .i32 n2] 73 (0, 0)) := by rw [hW3]; exact (Below.heap_alloc _ _ _ (Array.getElem?_eq_some_iff.1 HN2.out).1).trans HN2.out
    rw [← hW3, ← hTw]
    have HW3 := Lib.hid (And.intro hW3 hTw)
    clear hW3 hTw cN1 cN2
    have hobT : ∀ cs vp, W3.heap[p]? = some (.cells cs 47 (0, 0)) → cs[3]? = some vp → some Tw ≠ vp.ownBlock := by
      intro cs vp k1 k2 e
      obtain ⟨cs', vp', c9', u1, u2, u3, _, _, _, _, u8⟩ := HH2.out.tb
      have hW3' := HW3.out
      rw [hW3'.1] at k1
      rw [(Below.heap_alloc _ _ _ (Array.getElem?_eq_some_iff.1 u1).1).trans u1] at k1
      cases k1
      rw [u3] at k2
      cases k2
      obtain ⟨_, cur, hcur⟩ := ownsRow_block u8 e.symm
      have := (Array.getElem?_eq_some_iff.1 hcur).1
      rw [hW3'.2] at this
      omega
    obtain ⟨cs, vp, c9, t1, t2, t3, t4, t5, t6, t7, t8⟩ := H3.tb
    obtain ⟨v', w4, hap, hA2⟩ := appP_run W3 (w.heap.size + 5) vp pairs n1 n2 t8 (by have := Hln.out.1; omega) H3.sz
    have cB := H3.b1.cell
    have cp3 : W3.cell? ⟨p, 3, none⟩ = some vp := by rw [cell_of_row _ _ _ _ _ _ t1]; exact t3
    have hTp : Tw ≠ p := by have := HW3.out.2; have := HH2.out.sz; omega
    have fp3 : W3.frozen? ⟨p, 3, none⟩ = false := frozen_of_row _ _ _ _ _ t1
    have cT0 : W3.cell? ⟨Tw, 0, none⟩ = some (.int .i32 n1) := by rw [cell_of_row _ _ _ _ _ _ hT3]; rfl
    have cT1 : W3.cell? ⟨Tw, 1, none⟩ = some (.int .i32 n2) := by rw [cell_of_row _ _ _ _ _ _ hT3]; rfl
    have lp3 : p < W3.heap.size := World.block_lt_of_cell? _ _ cp3
    have lb3 : w.heap.size < W3.heap.size := World.block_lt_of_cell? _ _ cB
    have lt3 : Tw < W3.heap.size := World.block_lt_of_cell? _ _ cT0
    have hob : ∀ k, vp.ownBlock = some k → w.heap.size + 5 ≤ k := fun k hk => (ownsRow_block t8 hk).1
    have hpo : some p ≠ vp.ownBlock := fun e => by have := hob _ e.symm; omega
    have cp4 := hA2.grow.cell cp3 hpo
    have cB4 := hA2.grow.cell cB (fun e => by have := hob _ e.symm; simp at this; omega)
    have hTo := hobT cs vp t1 t3
    have cT04 := hA2.grow.cell cT0 hTo
    have cT14 := hA2.grow.cell cT1 hTo
    have fp4 := (hA2.grow.frozen_far ⟨p, 3, none⟩ (World.block_lt_of_cell? _ _ cp3) hpo).trans fp3
    have H5 := H3.addPair ⟨cs, t1, t3⟩ hA2
    have HH3 := Lib.hid (And.intro H3 (And.intro hT3 (And.intro hN3 (And.intro t8 hA2))))
    have HH5 := Lib.hid H5
    have hform := hA2.form
    obtain ⟨g4, cap4, rfl⟩ := hform
    clear H3 hT3 hN3 t1 t2 t3 t4 t5 t6 t7 t8 hob hpo H5 hA2
    have hmix : Tryd.prog.follows .mixedOrders = true := by kernel_rfl
    have hS : (fun W' : World => W'.cell? ⟨w.heap.size, 0, none⟩ = some (.pointer (some ⟨p, 0, none⟩)) ∧ W'.cell? ⟨Tw, 0, none⟩ = some (.int .i32 n1) ∧ W'.cell? ⟨Tw, 1, none⟩ = some (.int .i32 n2)) W3.drew := ⟨cB, cT0, cT1⟩
    have hS2 : (fun W' : World => W'.cell? ⟨w.heap.size, 0, none⟩ = some (.pointer (some ⟨p, 0, none⟩)) ∧ W'.cell? ⟨Tw, 0, none⟩ = some (.int .i32 n1) ∧ W'.cell? ⟨Tw, 1, none⟩ = some (.int .i32 n2)) (W3.alloc (.cells #[.int .i32 n1, .int .i32 n2] 77)).drew :=
      ⟨(World.cell?_of_block (w := W3) (Below.heap_alloc W3 _ _ lb3)).trans cB, (World.cell?_of_block (w := W3) (Below.heap_alloc W3 _ _ lt3)).trans cT0, (World.cell?_of_block (w := W3) (Below.heap_alloc W3 _ _ lt3)).trans cT1⟩
    have hS4 : (fun W' : World => W'.cell? ⟨w.heap.size, 0, none⟩ = some (.pointer (some ⟨p, 0, none⟩)) ∧ W'.cell? ⟨Tw, 0, none⟩ = some (.int .i32 n1) ∧ W'.cell? ⟨Tw, 1, none⟩ = some (.int .i32 n2)) w4 := ⟨cB4, cT04, cT14⟩
    have hS5 : (fun W' : World => W'.cell? ⟨w.heap.size, 0, none⟩ = some (.pointer (some ⟨p, 0, none⟩)) ∧ W'.cell? ⟨Tw, 0, none⟩ = some (.int .i32 n1) ∧ W'.cell? ⟨Tw, 1, none⟩ = some (.int .i32 n2)) (w4.setCell ⟨p, 3, none⟩ (.slice (some ⟨g4, 0, none⟩) (pairs.length + 1) cap4)) :=
      ⟨(World.cell?_of_block (w := w4) (Below.heap_setCell w4 _ _ _ (by simp; omega))).trans cB4, (World.cell?_of_block (w := w4) (Below.heap_setCell w4 _ _ _ (by simp; omega))).trans cT04, (World.cell?_of_block (w := w4) (Below.heap_setCell w4 _ _ _ (by simp; omega))).trans cT14⟩
    apply wpIn_via
    · refine wpIn_region_R (S := fun W' => W'.cell? ⟨w.heap.size, 0, none⟩ = some (.pointer (some ⟨p, 0, none⟩)) ∧ W'.cell? ⟨Tw, 0, none⟩ = some (.int .i32 n1) ∧ W'.cell? ⟨Tw, 1, none⟩ = some (.int .i32 n2)) hmix (by kernel_rfl) ?_
      refine wpAnyH_take (i := 0) (v := ?_) rfl (by kernel_rfl) (by kernel_rfl) (by kernel_rfl) (fun _ _ _ h => h) (Or.inl ⟨by rfl, ?_⟩) hS ?_
      rotate_left
      · (intro W' hS'; (try dsimp only at hS'); go_simp; with_reducible rfl)
      try simp only [Act.put, List.setIfInBounds_toArray, List.set_cons_zero, List.set_cons_succ]
      refine wpAnyH_take (i := 1) (v := ?_) rfl (by kernel_rfl) (by kernel_rfl) (by kernel_rfl) (fun _ _ _ h => h) (Or.inl ⟨by rfl, ?_⟩) hS ?_
      rotate_left
      · (intro W' hS'; (try dsimp only at hS'); go_simp; with_reducible rfl)
      try simp only [Act.put, List.setIfInBounds_toArray, List.set_cons_zero, List.set_cons_succ]
      refine wpAnyH_take (i := 2) (v := ?_) rfl (by kernel_rfl) (by kernel_rfl) (by kernel_rfl) (fun _ _ _ h => h) (Or.inl ⟨by rfl, ?_⟩) hS ?_
      rotate_left
      · (intro W' hS'; (try dsimp only at hS'); go_simp; with_reducible rfl)
      try simp only [Act.put, List.setIfInBounds_toArray, List.set_cons_zero, List.set_cons_succ]
      refine wpAnyH_take (i := 3) (v := ?_) rfl (by kernel_rfl) (by kernel_rfl) (by kernel_rfl) (fun _ _ _ h => h) (Or.inl ⟨by rfl, ?_⟩) hS ?_
      rotate_left
      · (intro W' hS'; (try dsimp only at hS'); go_simp; with_reducible rfl)
      try simp only [Act.put, List.setIfInBounds_toArray, List.set_cons_zero, List.set_cons_succ]
      refine wpAnyH_take (i := 5) (v := ?_) rfl (by kernel_rfl) (by kernel_rfl) (by kernel_rfl) (fun _ _ _ h => h) (Or.inl ⟨by rfl, ?_⟩) hS ?_
      rotate_left
      · (intro W' hS'; (try dsimp only at hS'); go_simp; with_reducible rfl)
      try simp only [Act.put, List.setIfInBounds_toArray, List.set_cons_zero, List.set_cons_succ]
      refine wpAnyH_ready (rs := [4, 6]) (by kernel_rfl) (by simp) ?_
      refine AllReadyH.cons rfl (fun K hK => ?_) (AllReadyH.cons rfl (fun K hK => ?_) AllReadyH.nil)
      · go_simp
        refine hK.out _ _ hS (fun _ => ?_)
        clear hK K
        refine wpAnyH_ready (rs := [6]) (by kernel_rfl) (by simp) ?_
        refine AllReadyH.cons rfl (fun K hK => ?_) AllReadyH.nil
        go_simp
        refine hK.out _ _ hS2 (fun _ => ?_)
        clear hK K
        refine wpAnyH_ready (rs := [7]) (by kernel_rfl) (by simp) ?_
        refine AllReadyH.cons rfl (fun K hK => ?_) AllReadyH.nil
        refine step_app appP_eq rfl _ _ rfl rfl rfl rfl hap ?_
        refine hK.out _ _ hS4 (fun _ => ?_)
        clear hK K
        refine wpAnyH_take (i := 8) (v := ?_) rfl (by kernel_rfl) (by kernel_rfl) (by kernel_rfl) (fun _ _ _ h => h) (Or.inl ⟨by rfl, ?_⟩) hS4 ?_
        rotate_left
        · (intro W' hS'; (try dsimp only at hS'); go_simp; with_reducible rfl)
        try simp only [Act.put, List.setIfInBounds_toArray, List.set_cons_zero, List.set_cons_succ]
        refine wpAnyH_take (i := 9) (v := ?_) rfl (by kernel_rfl) (by kernel_rfl) (by kernel_rfl) (fun _ _ _ h => h) (Or.inl ⟨by rfl, ?_⟩) hS4 ?_
        rotate_left
        · (intro W' hS'; (try dsimp only at hS'); go_simp; with_reducible rfl)
        try simp only [Act.put, List.setIfInBounds_toArray, List.set_cons_zero, List.set_cons_succ]
        refine wpAnyH_ready (rs := [10]) (by kernel_rfl) (by simp) ?_
        refine AllReadyH.cons rfl (fun K hK => ?_) AllReadyH.nil
        go_simp
        refine hK.out _ _ hS5 (fun _ => ?_)
        clear hK K
        refine wpAnyH_done (by kernel_rfl) ?_ _
        exact ⟨rfl, rfl, rfl⟩
      · go_simp
        refine hK.out _ _ hS2 (fun _ => ?_)
        clear hK K
        refine wpAnyH_ready (rs := [4]) (by kernel_rfl) (by simp) ?_
        refine AllReadyH.cons rfl (fun K hK => ?_) AllReadyH.nil
        go_simp
        refine hK.out _ _ hS2 (fun _ => ?_)
        clear hK K
        refine wpAnyH_ready (rs := [7]) (by kernel_rfl) (by simp) ?_
        refine AllReadyH.cons rfl (fun K hK => ?_) AllReadyH.nil
        refine step_app appP_eq rfl _ _ rfl rfl rfl rfl hap ?_
        refine hK.out _ _ hS4 (fun _ => ?_)
        clear hK K
        refine wpAnyH_take (i := 8) (v := ?_) rfl (by kernel_rfl) (by kernel_rfl) (by kernel_rfl) (fun _ _ _ h => h) (Or.inl ⟨by rfl, ?_⟩) hS4 ?_
        rotate_left
        · (intro W' hS'; (try dsimp only at hS'); go_simp; with_reducible rfl)
        try simp only [Act.put, List.setIfInBounds_toArray, List.set_cons_zero, List.set_cons_succ]
        refine wpAnyH_take (i := 9) (v := ?_) rfl (by kernel_rfl) (by kernel_rfl) (by kernel_rfl) (fun _ _ _ h => h) (Or.inl ⟨by rfl, ?_⟩) hS4 ?_
        rotate_left
        · (intro W' hS'; (try dsimp only at hS'); go_simp; with_reducible rfl)
        try simp only [Act.put, List.setIfInBounds_toArray, List.set_cons_zero, List.set_cons_succ]
        refine wpAnyH_ready (rs := [10]) (by kernel_rfl) (by simp) ?_
        refine AllReadyH.cons rfl (fun K hK => ?_) AllReadyH.nil
        go_simp
        refine hK.out _ _ hS5 (fun _ => ?_)
        clear hK K
        refine wpAnyH_done (by kernel_rfl) ?_ _
        exact ⟨rfl, rfl, rfl⟩
    obtain ⟨W5, hW5⟩ : ∃ W5, W5 = w4.setCell ⟨p, 3, none⟩ (.slice (some ⟨g4, 0, none⟩) (pairs.length + 1) cap4) := ⟨_, rfl⟩
    have H5 := HH5.out
    rw [← hW5] at H5 ⊢
    have hT5 : W5.heap[Tw]? = some (.cells #[.int .i32 n1, .int .i32 n2] 77 (0, 0)) := by
      rw [hW5]; exact (Below.heap_setCell _ _ _ _ hTp).trans ((HH3.out.2.2.2.2.grow.block Tw lt3 hTo).trans HH3.out.2.1)
    have cW5 : W5.cell? ⟨p, 3, none⟩ = some (.slice (some ⟨g4, 0, none⟩) (pairs.length + 1) cap4) := by rw [hW5]; exact World.cell?_setCell_same w4 _ _ cp4
    have HW5 := Lib.hid hW5
    clear hW5 cB cp3 fp3 cT0 cT1 lp3 lb3 lt3 cp4 fp4 cB4 hTo cT04 cT14 hS hS2 hS4 hS5 hap hobT
    obtain ⟨lv, hL5, hr5⟩ := H5.l
    obtain ⟨cs, vp5, c9, t1, t2, t3, t4, t5, t6, t7, t8⟩ := H5.tb
    have hvp5 : vp5 = .slice (some ⟨g4, 0, none⟩) (pairs.length + 1) cap4 := by
      have e1 : W5.cell? ⟨p, 3, none⟩ = some vp5 := by rw [cell_of_row _ _ _ _ _ _ t1]; exact t3
      exact Option.some.inj (e1.symm.trans cW5)
    subst hvp5
    clear cW5
    obtain ⟨v7, w6, hap, hA6⟩ := appE_run W5 (w.heap.size + 5) lv es pos' ((pairs.length : Int) + 1) hr5 (by have := Hln.out.2.1; omega) H5.sz
    have cB := H5.b1.cell
    have cL := hL5.cell
    have fL := hL5.frozen
    have cA := H5.ps.cell
    have cp3 : W5.cell? ⟨p, 3, none⟩ = some (.slice (some ⟨g4, 0, none⟩) (pairs.length + 1) cap4) := by rw [cell_of_row _ _ _ _ _ _ t1]; exact t3
    have lp3 : p < W5.heap.size := World.block_lt_of_cell? _ _ cp3
    have lb3 : w.heap.size < W5.heap.size := World.block_lt_of_cell? _ _ cB
    have la3 : w.heap.size + 3 < W5.heap.size := World.block_lt_of_cell? _ _ cA
    have ll3 : w.heap.size + 1 < W5.heap.size := World.block_lt_of_cell? _ _ cL
    have hob : ∀ k, lv.ownBlock = some k → w.heap.size + 5 ≤ k := fun k hk => (ownsRow_block hr5 hk).1
    have cL6 := hA6.grow.cell cL (fun e => by have : w.heap.size + 5 ≤ w.heap.size + 1 := hob _ e.symm; omega)
    have fL6 := (hA6.grow.frozen_far ⟨w.heap.size + 1, 0, none⟩ ll3 (fun e => by have : w.heap.size + 5 ≤ w.heap.size + 1 := hob _ e.symm; omega)).trans fL
    have cB6 := hA6.grow.cell cB (fun e => by have := hob _ e.symm; simp at this; omega)
    have cA6 := hA6.grow.cell cA (fun e => by have : w.heap.size + 5 ≤ w.heap.size + 3 := hob _ e.symm; omega)
    have cp6 := hA6.grow.cell cp3 (fun e => by have := hob _ e.symm; simp at this; omega)
    have H7 := H5.addEs hL5 hA6
    obtain ⟨g7, cap7, rfl⟩ := hA6.form
    have hTn : w.heap.size + 5 ≤ Tw := by have := HW3.out.2; have := HH2.out.sz; omega
    have hT6 : w6.heap[Tw]? = some (.cells #[.int .i32 n1, .int .i32 n2] 77 (0, 0)) := (hA6.grow.block Tw (Array.getElem?_eq_some_iff.1 hT5).1 (fun e => by
      obtain ⟨_, cur, hcur⟩ := ownsRow_block hr5 e.symm
      rw [hT5] at hcur; cases hcur)).trans hT5
    have HT6 := Lib.hid (And.intro hTn hT6)
    clear hTn hT6 hT5
    have HH7 := Lib.hid H7
    have HHH5 := Lib.hid (And.intro H5 (And.intro hL5 (And.intro hr5 (And.intro t1 hA6))))
    clear H7 H5 hL5 hr5 t1 t2 t3 t4 t5 t6 t7 t8 hA6 hob
    have hS : (fun W' : World => W'.cell? ⟨w.heap.size, 0, none⟩ = some (.pointer (some ⟨p, 0, none⟩)) ∧ W'.cell? ⟨w.heap.size + 3, 0, none⟩ = some (.int .i32 pos') ∧ W'.cell? ⟨p, 3, none⟩ = some (.slice (some ⟨g4, 0, none⟩) (pairs.length + 1) cap4)) W5.drew := ⟨cB, cA, cp3⟩
    have hS2 : (fun W' : World => W'.cell? ⟨w.heap.size, 0, none⟩ = some (.pointer (some ⟨p, 0, none⟩)) ∧ W'.cell? ⟨w.heap.size + 3, 0, none⟩ = some (.int .i32 pos') ∧ W'.cell? ⟨p, 3, none⟩ = some (.slice (some ⟨g4, 0, none⟩) (pairs.length + 1) cap4)) (W5.alloc (.cells #[.int .i32 pos', .int .i64 ((pairs.length : Int) + 1)] 75)).drew :=
      ⟨(World.cell?_of_block (w := W5) (Below.heap_alloc W5 _ _ lb3)).trans cB, (World.cell?_of_block (w := W5) (Below.heap_alloc W5 _ _ la3)).trans cA, (World.cell?_of_block (w := W5) (Below.heap_alloc W5 _ _ lp3)).trans cp3⟩
    have hS4 : (fun W' : World => W'.cell? ⟨w.heap.size, 0, none⟩ = some (.pointer (some ⟨p, 0, none⟩)) ∧ W'.cell? ⟨w.heap.size + 3, 0, none⟩ = some (.int .i32 pos') ∧ W'.cell? ⟨p, 3, none⟩ = some (.slice (some ⟨g4, 0, none⟩) (pairs.length + 1) cap4)) w6 := ⟨cB6, cA6, cp6⟩
    have hS5 : (fun W' : World => W'.cell? ⟨w.heap.size, 0, none⟩ = some (.pointer (some ⟨p, 0, none⟩)) ∧ W'.cell? ⟨w.heap.size + 3, 0, none⟩ = some (.int .i32 pos') ∧ W'.cell? ⟨p, 3, none⟩ = some (.slice (some ⟨g4, 0, none⟩) (pairs.length + 1) cap4)) (w6.setCell ⟨w.heap.size + 1, 0, none⟩ (.slice (some ⟨g7, 0, none⟩) (es.length + 1) cap7)) :=
      ⟨(World.cell?_of_block (w := w6) (Below.heap_setCell w6 _ _ _ (by simp))).trans cB6, (World.cell?_of_block (w := w6) (Below.heap_setCell w6 _ _ _ (by simp))).trans cA6, (World.cell?_of_block (w := w6) (Below.heap_setCell w6 _ _ _ (by simp; omega))).trans cp6⟩
    gi_upto_region 9 with (fail)
    apply wpIn_via
    · refine wpIn_region_R (S := fun W' => W'.cell? ⟨w.heap.size, 0, none⟩ = some (.pointer (some ⟨p, 0, none⟩)) ∧ W'.cell? ⟨w.heap.size + 3, 0, none⟩ = some (.int .i32 pos') ∧ W'.cell? ⟨p, 3, none⟩ = some (.slice (some ⟨g4, 0, none⟩) (pairs.length + 1) cap4)) hmix (by kernel_rfl) ?_
      refine wpAnyH_take (i := 1) (v := ?_) rfl (by kernel_rfl) (by kernel_rfl) (by kernel_rfl) (fun _ _ _ h => h) (Or.inl ⟨by rfl, ?_⟩) hS ?_
      rotate_left
      · (intro W' hS'; (try dsimp only at hS'); go_simp; with_reducible rfl)
      try simp only [Act.put, List.setIfInBounds_toArray, List.set_cons_zero, List.set_cons_succ]
      refine wpAnyH_take (i := 2) (v := ?_) rfl (by kernel_rfl) (by kernel_rfl) (by kernel_rfl) (fun _ _ _ h => h) (Or.inl ⟨by rfl, ?_⟩) hS ?_
      rotate_left
      · (intro W' hS'; (try dsimp only at hS'); go_simp; with_reducible rfl)
      try simp only [Act.put, List.setIfInBounds_toArray, List.set_cons_zero, List.set_cons_succ]
      refine wpAnyH_take (i := 3) (v := ?_) rfl (by kernel_rfl) (by kernel_rfl) (by kernel_rfl) (fun _ _ _ h => h) (Or.inl ⟨by rfl, ?_⟩) hS ?_
      rotate_left
      · (intro W' hS'; (try dsimp only at hS'); go_simp; with_reducible rfl)
      try simp only [Act.put, List.setIfInBounds_toArray, List.set_cons_zero, List.set_cons_succ]
      refine wpAnyH_take (i := 4) (v := ?_) rfl (by kernel_rfl) (by kernel_rfl) (by kernel_rfl) (fun _ _ _ h => h) (Or.inl ⟨by rfl, ?_⟩) hS ?_
      rotate_left
      · (intro W' hS'; (try dsimp only at hS'); go_simp; with_reducible rfl)
      try simp only [Act.put, List.setIfInBounds_toArray, List.set_cons_zero, List.set_cons_succ]
      refine wpAnyH_take (i := 5) (v := ?_) rfl (by kernel_rfl) (by kernel_rfl) (by kernel_rfl) (fun _ _ _ h => h) (Or.inl ⟨by rfl, ?_⟩) hS ?_
      rotate_left
      · (intro W' hS'; (try dsimp only at hS'); go_simp; with_reducible rfl)
      try simp only [Act.put, List.setIfInBounds_toArray, List.set_cons_zero, List.set_cons_succ]
      refine wpAnyH_take (i := 6) (v := ?_) rfl (by kernel_rfl) (by kernel_rfl) (by kernel_rfl) (fun _ _ _ h => h) (Or.inl ⟨by rfl, ?_⟩) hS ?_
      rotate_left
      · (intro W' hS'; (try dsimp only at hS'); go_simp; with_reducible rfl)
      try simp only [Act.put, List.setIfInBounds_toArray, List.set_cons_zero, List.set_cons_succ]
      refine wpAnyH_take (i := 7) (v := ?_) rfl (by kernel_rfl) (by kernel_rfl) (by kernel_rfl) (fun _ _ _ h => h) (Or.inl ⟨by rfl, ?_⟩) hS ?_
      rotate_left
      · (intro W' hS'; (try dsimp only at hS'); go_simp; with_reducible rfl)
      try simp only [Act.put, List.setIfInBounds_toArray, List.set_cons_zero, List.set_cons_succ]
      refine wpAnyH_ready (rs := [0, 8]) (by kernel_rfl) (by simp) ?_
      refine AllReadyH.cons rfl (fun K hK => ?_) (AllReadyH.cons rfl (fun K hK => ?_) AllReadyH.nil)
      · go_simp
        refine hK.out _ _ hS (fun _ => ?_)
        clear hK K
        refine wpAnyH_ready (rs := [8]) (by kernel_rfl) (by simp) ?_
        refine AllReadyH.cons rfl (fun K hK => ?_) AllReadyH.nil
        go_simp
        refine hK.out _ _ hS2 (fun _ => ?_)
        clear hK K
        refine wpAnyH_ready (rs := [9]) (by kernel_rfl) (by simp) ?_
        refine AllReadyH.cons rfl (fun K hK => ?_) AllReadyH.nil
        refine step_app appE_eq rfl _ _ rfl rfl rfl rfl hap ?_
        refine hK.out _ _ hS4 (fun _ => ?_)
        clear hK K
        refine wpAnyH_ready (rs := [10]) (by kernel_rfl) (by simp) ?_
        refine AllReadyH.cons rfl (fun K hK => ?_) AllReadyH.nil
        go_simp
        refine hK.out _ _ hS5 (fun _ => ?_)
        clear hK K
        refine wpAnyH_done (by kernel_rfl) ?_ _
        exact ⟨rfl, rfl, rfl⟩
      · go_simp
        refine hK.out _ _ hS2 (fun _ => ?_)
        clear hK K
        refine wpAnyH_ready (rs := [0]) (by kernel_rfl) (by simp) ?_
        refine AllReadyH.cons rfl (fun K hK => ?_) AllReadyH.nil
        go_simp
        refine hK.out _ _ hS2 (fun _ => ?_)
        clear hK K
        refine wpAnyH_ready (rs := [9]) (by kernel_rfl) (by simp) ?_
        refine AllReadyH.cons rfl (fun K hK => ?_) AllReadyH.nil
        refine step_app appE_eq rfl _ _ rfl rfl rfl rfl hap ?_
        refine hK.out _ _ hS4 (fun _ => ?_)
        clear hK K
        refine wpAnyH_ready (rs := [10]) (by kernel_rfl) (by simp) ?_
        refine AllReadyH.cons rfl (fun K hK => ?_) AllReadyH.nil
        go_simp
        refine hK.out _ _ hS5 (fun _ => ?_)
        clear hK K
        refine wpAnyH_done (by kernel_rfl) ?_ _
        exact ⟨rfl, rfl, rfl⟩
    obtain ⟨W7, hW7⟩ : ∃ W7, W7 = w6.setCell ⟨w.heap.size + 1, 0, none⟩ (.slice (some ⟨g7, 0, none⟩) (es.length + 1) cap7) := ⟨_, rfl⟩
    have H7 := HH7.out
    have hT7 : W7.heap[Tw]? = some (.cells #[.int .i32 n1, .int .i32 n2] 77 (0, 0)) := by
      rw [hW7]; exact (Below.heap_setCell _ _ _ _ (by have := HT6.out.1; simp; omega)).trans HT6.out.2
    rw [← hW7] at H7 ⊢
    have HW7 := Lib.hid hW7
    clear hW7 cB cL fL cA cp3 lp3 lb3 la3 ll3 cL6 fL6 cB6 cA6 cp6 hS hS2 hS4 hS5 hap
    obtain ⟨cs, vp7, c9, t1, t2, t3, t4, t5, t6, t7, t8⟩ := H7.tb
    have cB := H7.b1.cell
    cases ob with
    | true =>
      have cp9 : W7.cell? ⟨p, 9, none⟩ = some (.int .i64 c9) := by rw [cell_of_row _ _ _ _ _ _ t1]; exact t6
      have fp9 : W7.frozen? ⟨p, 9, none⟩ = false := frozen_of_row _ _ _ _ _ t1
      have hbp : w.heap.size ≠ p := by omega
      have HH7' := Lib.hid H7
      clear H7 t1 t2 t3 t4 t5 t6 t7 t8 hT7
      gi_upto_region 11 with (fail)
      have hS : (fun W' : World => W'.cell? ⟨w.heap.size, 0, none⟩ = some (.pointer (some ⟨p, 0, none⟩))) W7.drew := cB
      have hS5 : (fun W' : World => W'.cell? ⟨w.heap.size, 0, none⟩ = some (.pointer (some ⟨p, 0, none⟩))) (W7.setCell ⟨p, 9, none⟩ (.int .i64 (IntKind.i64.wrap (c9 + 1)))).drew := (World.cell?_of_block (w := W7) (Below.heap_setCell W7 _ _ _ hbp)).trans cB
      apply wpIn_via
      · refine wpIn_region_R (S := fun W' => W'.cell? ⟨w.heap.size, 0, none⟩ = some (.pointer (some ⟨p, 0, none⟩))) hmix (by kernel_rfl) ?_
        refine wpAnyH_take (i := 0) (v := ?_) rfl (by kernel_rfl) (by kernel_rfl) (by kernel_rfl) (fun _ _ _ h => h) (Or.inl ⟨by rfl, ?_⟩) hS ?_
        rotate_left
        · (intro W' hS'; (try dsimp only at hS'); go_simp; with_reducible rfl)
        try simp only [Act.put, List.setIfInBounds_toArray, List.set_cons_zero, List.set_cons_succ]
        refine wpAnyH_take (i := 1) (v := ?_) rfl (by kernel_rfl) (by kernel_rfl) (by kernel_rfl) (fun _ _ _ h => h) (Or.inl ⟨by rfl, ?_⟩) hS ?_
        rotate_left
        · (intro W' hS'; (try dsimp only at hS'); go_simp; with_reducible rfl)
        try simp only [Act.put, List.setIfInBounds_toArray, List.set_cons_zero, List.set_cons_succ]
        refine wpAnyH_take (i := 2) (v := ?_) rfl (by kernel_rfl) (by kernel_rfl) (by kernel_rfl) (fun _ _ _ h => h) (Or.inl ⟨by rfl, ?_⟩) hS ?_
        rotate_left
        · (intro W' hS'; (try dsimp only at hS'); go_simp; with_reducible rfl)
        try simp only [Act.put, List.setIfInBounds_toArray, List.set_cons_zero, List.set_cons_succ]
        refine wpAnyH_take (i := 3) (v := ?_) rfl (by kernel_rfl) (by kernel_rfl) (by kernel_rfl) (fun _ _ _ h => h) (Or.inl ⟨by rfl, ?_⟩) hS ?_
        rotate_left
        · (intro W' hS'; (try dsimp only at hS'); go_simp; with_reducible rfl)
        try simp only [Act.put, List.setIfInBounds_toArray, List.set_cons_zero, List.set_cons_succ]
        refine wpAnyH_take (i := 6) (v := ?_) rfl (by kernel_rfl) (by kernel_rfl) (by kernel_rfl) (fun _ _ _ h => h) (Or.inl ⟨by rfl, ?_⟩) hS ?_
        rotate_left
        · (intro W' hS'; (try dsimp only at hS'); go_simp; with_reducible rfl)
        try simp only [Act.put, List.setIfInBounds_toArray, List.set_cons_zero, List.set_cons_succ]
        refine wpAnyH_take (i := 7) (v := ?_) rfl (by kernel_rfl) (by kernel_rfl) (by kernel_rfl) (fun _ _ _ h => h) (Or.inl ⟨by rfl, ?_⟩) hS ?_
        rotate_left
        · (intro W' hS'; (try dsimp only at hS'); go_simp; with_reducible rfl)
        try simp only [Act.put, List.setIfInBounds_toArray, List.set_cons_zero, List.set_cons_succ]
        refine wpAnyH_ready (rs := [4]) (by kernel_rfl) (by simp) ?_
        refine AllReadyH.cons rfl (fun K hK => ?_) AllReadyH.nil
        go_simp
        refine hK.out _ _ hS (fun _ => ?_)
        clear hK K
        refine wpAnyH_take (i := 5) (v := ?_) rfl (by kernel_rfl) (by kernel_rfl) (by kernel_rfl) (fun _ _ _ h => h) (Or.inl ⟨by rfl, ?_⟩) hS ?_
        rotate_left
        · (intro W' hS'; (try dsimp only at hS'); go_simp; with_reducible rfl)
        try simp only [Act.put, List.setIfInBounds_toArray, List.set_cons_zero, List.set_cons_succ]
        refine wpAnyH_take (i := 8) (v := ?_) rfl (by kernel_rfl) (by kernel_rfl) (by kernel_rfl) (fun _ _ _ h => h) (Or.inl ⟨by rfl, ?_⟩) hS ?_
        rotate_left
        · (intro W' hS'; (try dsimp only at hS'); go_simp; with_reducible rfl)
        try simp only [Act.put, List.setIfInBounds_toArray, List.set_cons_zero, List.set_cons_succ]
        refine wpAnyH_ready (rs := [9]) (by kernel_rfl) (by simp) ?_
        refine AllReadyH.cons rfl (fun K hK => ?_) AllReadyH.nil
        go_simp
        refine hK.out _ _ hS5 (fun _ => ?_)
        clear hK K
        refine wpAnyH_done (by kernel_rfl) ?_ _
        exact ⟨rfl, rfl, rfl⟩
      have H8 := (HH7'.out.count (IntKind.i64.wrap (c9 + 1))).grow ((Below.refl _ _).drew)
      have HH8 := Lib.hid H8
      clear H8 cB cp9 fp9 hS hS5
      gi_wp2
      refine ⟨HH8.out.keep, ?_⟩
      have H9 := HH8.out.restart
      simpa using H9
    | false =>
      have cp4 : W7.cell? ⟨p, 4, none⟩ = some (.map (some mj)) := by rw [cell_of_row _ _ _ _ _ _ t1]; exact t4
      have cp5 : W7.cell? ⟨p, 5, none⟩ = some (.map (some ms)) := by rw [cell_of_row _ _ _ _ _ _ t1]; exact t5
      have cT0 : W7.cell? ⟨Tw, 0, none⟩ = some (.int .i32 n1) := by rw [cell_of_row _ _ _ _ _ _ hT7]; rfl
      have cT1 : W7.cell? ⟨Tw, 1, none⟩ = some (.int .i32 n2) := by rw [cell_of_row _ _ _ _ _ _ hT7]; rfl
      have cA := H7.ps.cell
      obtain ⟨lk, hlk⟩ := twoKey n1 n2 Hrg.out.1 Hrg.out.2
      have hij : IsMap Tryd.prog 77 W7.drew mj (SjOf jl) := H7.ij.of_heap rfl
      obtain ⟨w8, hup, hj8, hg8⟩ := IsMap.run_update (P := Tryd.prog) (t := 41) (e := 21) twoKeyed Tryd.underlying41 hij hlk (.int .i32 pos')
      have hg8' : W7.grownBy w8 (some mj) := ⟨hg8.os, hg8.tape, hg8.output, hg8.size, hg8.block⟩
      have hTj : Tw ≠ mj := by have := HT6.out.1; omega
      have cB8 := hg8'.cell cB (by simp; omega)
      have cp58 := hg8'.cell cp5 (by simp; omega)
      have cp48 := hg8'.cell cp4 (by simp; omega)
      have cT08 := hg8'.cell cT0 (by simpa using hTj)
      have cT18 := hg8'.cell cT1 (by simpa using hTj)
      have cA8 := hg8'.cell cA (by simp; omega)
      have H8 := H7.put (.inl rfl) hg8' (jl' := jl ++ [((n1, n2), pos')]) (sl' := sl) (by rw [SjOf_snoc]; exact hj8) (H7.is.of_heap (hg8'.block _ H7.is.lt (by simpa using fun e => hjs e.symm)))
      have HH8 := Lib.hid H8
      clear H7 H8 t1 t2 t3 t4 t5 t6 t7 t8 hT7 hlk hij hj8 hg8 hg8'
      have hS : (fun W' : World => W'.cell? ⟨w.heap.size, 0, none⟩ = some (.pointer (some ⟨p, 0, none⟩)) ∧ W'.cell? ⟨p, 4, none⟩ = some (.map (some mj)) ∧ W'.cell? ⟨Tw, 0, none⟩ = some (.int .i32 n1) ∧ W'.cell? ⟨Tw, 1, none⟩ = some (.int .i32 n2) ∧ W'.cell? ⟨w.heap.size + 3, 0, none⟩ = some (.int .i32 pos')) W7.drew := ⟨cB, cp4, cT0, cT1, cA⟩
      have hS8 : (fun W' : World => W'.cell? ⟨w.heap.size, 0, none⟩ = some (.pointer (some ⟨p, 0, none⟩)) ∧ W'.cell? ⟨p, 4, none⟩ = some (.map (some mj)) ∧ W'.cell? ⟨Tw, 0, none⟩ = some (.int .i32 n1) ∧ W'.cell? ⟨Tw, 1, none⟩ = some (.int .i32 n2) ∧ W'.cell? ⟨w.heap.size + 3, 0, none⟩ = some (.int .i32 pos')) w8 := ⟨cB8, cp48, cT08, cT18, cA8⟩
      gi_upto_region 12 with (fail)
      apply wpIn_via
      · refine wpIn_region_R (S := fun W' => W'.cell? ⟨w.heap.size, 0, none⟩ = some (.pointer (some ⟨p, 0, none⟩)) ∧ W'.cell? ⟨p, 4, none⟩ = some (.map (some mj)) ∧ W'.cell? ⟨Tw, 0, none⟩ = some (.int .i32 n1) ∧ W'.cell? ⟨Tw, 1, none⟩ = some (.int .i32 n2) ∧ W'.cell? ⟨w.heap.size + 3, 0, none⟩ = some (.int .i32 pos')) hmix (by kernel_rfl) ?_
        refine wpAnyH_take (i := 0) (v := ?_) rfl (by kernel_rfl) (by kernel_rfl) (by kernel_rfl) (fun _ _ _ h => h) (Or.inl ⟨by rfl, ?_⟩) hS ?_
        rotate_left
        · (intro W' hS'; (try dsimp only at hS'); go_simp; with_reducible rfl)
        try simp only [Act.put, List.setIfInBounds_toArray, List.set_cons_zero, List.set_cons_succ]
        refine wpAnyH_take (i := 1) (v := ?_) rfl (by kernel_rfl) (by kernel_rfl) (by kernel_rfl) (fun _ _ _ h => h) (Or.inl ⟨by rfl, ?_⟩) hS ?_
        rotate_left
        · (intro W' hS'; (try dsimp only at hS'); go_simp; with_reducible rfl)
        try simp only [Act.put, List.setIfInBounds_toArray, List.set_cons_zero, List.set_cons_succ]
        refine wpAnyH_take (i := 2) (v := ?_) rfl (by kernel_rfl) (by kernel_rfl) (by kernel_rfl) (fun _ _ _ h => h) (Or.inl ⟨by rfl, ?_⟩) hS ?_
        rotate_left
        · (intro W' hS'; (try dsimp only at hS'); go_simp; with_reducible rfl)
        try simp only [Act.put, List.setIfInBounds_toArray, List.set_cons_zero, List.set_cons_succ]
        refine wpAnyH_take (i := 3) (v := ?_) rfl (by kernel_rfl) (by kernel_rfl) (by kernel_rfl) (fun _ _ _ h => h) (Or.inl ⟨by rfl, ?_⟩) hS ?_
        rotate_left
        · (intro W' hS'; (try dsimp only at hS'); go_simp; with_reducible rfl)
        try simp only [Act.put, List.setIfInBounds_toArray, List.set_cons_zero, List.set_cons_succ]
        refine wpAnyH_take (i := 4) (v := ?_) rfl (by kernel_rfl) (by kernel_rfl) (by kernel_rfl) (fun _ _ _ h => h) (Or.inl ⟨by rfl, ?_⟩) hS ?_
        rotate_left
        · (intro W' hS'; (try dsimp only at hS'); go_simp; with_reducible rfl)
        try simp only [Act.put, List.setIfInBounds_toArray, List.set_cons_zero, List.set_cons_succ]
        refine wpAnyH_take (i := 5) (v := ?_) rfl (by kernel_rfl) (by kernel_rfl) (by kernel_rfl) (fun _ _ _ h => h) (Or.inl ⟨by rfl, ?_⟩) hS ?_
        rotate_left
        · (intro W' hS'; (try dsimp only at hS'); go_simp; with_reducible rfl)
        try simp only [Act.put, List.setIfInBounds_toArray, List.set_cons_zero, List.set_cons_succ]
        refine wpAnyH_ready (rs := [6]) (by kernel_rfl) (by simp) ?_
        refine AllReadyH.cons rfl (fun K hK => ?_) AllReadyH.nil
        go_simp
        refine hK.out _ _ hS8 (fun _ => ?_)
        clear hK K
        refine wpAnyH_done (by kernel_rfl) ?_ _
        exact ⟨rfl, rfl, rfl⟩
      clear hS hS8 hup cB cp4 cp5 cT0 cT1 cA
      have hkc := Maps.keyOf_int_mk (P := Tryd.prog) Tryd.underlying21 (a := n2) (by have := Hrg.out.2; unfold InI32 at this; simp [Lit.wf, IntKind.min, IntKind.max, IntKind.signed, IntKind.bits]; omega)
      have his : IsMap Tryd.prog 21 w8.drew ms (SsOf sl) := HH8.out.is.of_heap rfl
      have hlk := IsMap.run_lookup (P := Tryd.prog) (t := 42) (e := 3) (z := .int .i64 0) (Maps.int_keyed Tryd.underlying21) Tryd.underlying42 (fun w => by kernel_rfl) his hkc false
      simp only [Bool.false_eq_true, if_false, SsOf_get] at hlk
      obtain ⟨w9, hup, hs9, hg9⟩ := IsMap.run_update (P := Tryd.prog) (t := 42) (e := 3) (Maps.int_keyed Tryd.underlying21) Tryd.underlying42 his hkc (.int .i64 ((sl.count n2 : Int) + 1))
      have hg9' : w8.grownBy w9 (some ms) := ⟨hg9.os, hg9.tape, hg9.output, hg9.size, hg9.block⟩
      have hcl : sl.count n2 ≤ 100000 := Nat.le_trans List.count_le_length Hln.out.2.2.1
      have hwc : IntKind.i64.wrap ((sl.count n2 : Int) + 1) = (sl.count n2 : Int) + 1 := IntWalk.i64_in _ (by omega)
      have hTs : Tw ≠ ms := by have := HT6.out.1; omega
      have H9 := HH8.out.put (.inr rfl) hg9' (jl' := jl ++ [((n1, n2), pos')]) (sl' := sl ++ [n2]) (HH8.out.ij.of_heap (hg9'.block _ HH8.out.ij.lt (by simpa using hjs))) (by rw [SsOf_snoc]; exact hs9)
      have HH9 := Lib.hid H9
      have hS : (fun W' : World => W'.cell? ⟨w.heap.size, 0, none⟩ = some (.pointer (some ⟨p, 0, none⟩)) ∧ W'.cell? ⟨p, 5, none⟩ = some (.map (some ms)) ∧ W'.cell? ⟨Tw, 1, none⟩ = some (.int .i32 n2)) w8.drew := ⟨cB8, cp58, cT18⟩
      have hS9 : (fun W' : World => W'.cell? ⟨w.heap.size, 0, none⟩ = some (.pointer (some ⟨p, 0, none⟩)) ∧ W'.cell? ⟨p, 5, none⟩ = some (.map (some ms)) ∧ W'.cell? ⟨Tw, 1, none⟩ = some (.int .i32 n2)) w9 := ⟨hg9'.cell cB8 (by simp; omega), hg9'.cell cp58 (by simpa using hps), hg9'.cell cT18 (by simpa using hTs)⟩
      clear H9 his hkc hs9 hg9 hg9'
      gi_upto_region 13 with (fail)
      apply wpIn_via
      · refine wpIn_region_R (S := fun W' => W'.cell? ⟨w.heap.size, 0, none⟩ = some (.pointer (some ⟨p, 0, none⟩)) ∧ W'.cell? ⟨p, 5, none⟩ = some (.map (some ms)) ∧ W'.cell? ⟨Tw, 1, none⟩ = some (.int .i32 n2)) hmix (by kernel_rfl) ?_
        refine wpAnyH_take (i := 0) (v := ?_) rfl (by kernel_rfl) (by kernel_rfl) (by kernel_rfl) (fun _ _ _ h => h) (Or.inl ⟨by rfl, ?_⟩) hS ?_
        rotate_left
        · (intro W' hS'; (try dsimp only at hS'); go_simp; with_reducible rfl)
        try simp only [Act.put, List.setIfInBounds_toArray, List.set_cons_zero, List.set_cons_succ]
        refine wpAnyH_take (i := 1) (v := ?_) rfl (by kernel_rfl) (by kernel_rfl) (by kernel_rfl) (fun _ _ _ h => h) (Or.inl ⟨by rfl, ?_⟩) hS ?_
        rotate_left
        · (intro W' hS'; (try dsimp only at hS'); go_simp; with_reducible rfl)
        try simp only [Act.put, List.setIfInBounds_toArray, List.set_cons_zero, List.set_cons_succ]
        refine wpAnyH_take (i := 2) (v := ?_) rfl (by kernel_rfl) (by kernel_rfl) (by kernel_rfl) (fun _ _ _ h => h) (Or.inl ⟨by rfl, ?_⟩) hS ?_
        rotate_left
        · (intro W' hS'; (try dsimp only at hS'); go_simp; with_reducible rfl)
        try simp only [Act.put, List.setIfInBounds_toArray, List.set_cons_zero, List.set_cons_succ]
        refine wpAnyH_take (i := 3) (v := ?_) rfl (by kernel_rfl) (by kernel_rfl) (by kernel_rfl) (fun _ _ _ h => h) (Or.inl ⟨by rfl, ?_⟩) hS ?_
        rotate_left
        · (intro W' hS'; (try dsimp only at hS'); go_simp; with_reducible rfl)
        try simp only [Act.put, List.setIfInBounds_toArray, List.set_cons_zero, List.set_cons_succ]
        refine wpAnyH_take (i := 4) (v := ?_) rfl (by kernel_rfl) (by kernel_rfl) (by kernel_rfl) (fun _ _ _ h => h) (Or.inl ⟨by rfl, ?_⟩) hS ?_
        rotate_left
        · (intro W' hS'; (try dsimp only at hS'); go_simp; with_reducible rfl)
        try simp only [Act.put, List.setIfInBounds_toArray, List.set_cons_zero, List.set_cons_succ]
        refine wpAnyH_take (i := 5) (v := ?_) rfl (by kernel_rfl) (by kernel_rfl) (by kernel_rfl) (fun _ _ _ h => h) (Or.inl ⟨by rfl, ?_⟩) hS ?_
        rotate_left
        · (intro W' hS'; (try dsimp only at hS'); go_simp; with_reducible rfl)
        try simp only [Act.put, List.setIfInBounds_toArray, List.set_cons_zero, List.set_cons_succ]
        refine wpAnyH_ready (rs := [6]) (by kernel_rfl) (by simp) ?_
        refine AllReadyH.cons rfl (fun K hK => ?_) AllReadyH.nil
        go_simp
        refine hK.out _ _ hS (fun _ => ?_)
        clear hK K
        refine wpAnyH_take (i := 7) (v := ?_) rfl (by kernel_rfl) (by kernel_rfl) (by kernel_rfl) (fun _ _ _ h => h) (Or.inl ⟨by rfl, ?_⟩) hS ?_
        rotate_left
        · (intro W' hS'; (try dsimp only at hS'); go_simp; with_reducible rfl)
        try simp only [Act.put, List.setIfInBounds_toArray, List.set_cons_zero, List.set_cons_succ]
        refine wpAnyH_ready (rs := [8]) (by kernel_rfl) (by simp) ?_
        refine AllReadyH.cons rfl (fun K hK => ?_) AllReadyH.nil
        go_simp
        refine hK.out _ _ hS9 (fun _ => ?_)
        clear hK K
        refine wpAnyH_done (by kernel_rfl) ?_ _
        exact ⟨rfl, rfl, rfl⟩
      clear hS hS9 hup hlk
      gi_wp2
      refine ⟨HH9.out.keep, ?_⟩
      have H10 := HH9.out.restart
      simpa using H10
  case done =>
    rintro W hlt hPM hD
    have e : ((textParts s).map rowOf).length = rows.length := by rw [Hrows.out]; simp [prRows]
    rw [e, List.take_length] at hPM
    clear e cT hB0
    have cA := hPM.ps.cell
    have fA := hPM.ps.frozen
    obtain ⟨W1, hW1⟩ : ∃ W1, W1 = W.setCell ⟨w.heap.size + 3, 0, none⟩ (.int .i32 0) := ⟨_, rfl⟩
    have H1 := hPM.setPos 0
    rw [← hW1] at H1
    have hD1 : W1.heap[W0.heap.size]? = some (.deferred (some [])) := by rw [hW1]; exact (Below.heap_setCell _ _ _ _ (by simp; omega)).trans hD
    have HPM := Lib.hid hPM
    have HW1 := Lib.hid hW1
    have HH1 := Lib.hid (And.intro H1 hD1)
    clear hPM hW1 H1 hD hD1
    gi_upto_region 15 with (fail)
    rw [← HW1.out]
    refine wpIn_region_lit ?_
    refine wpListIn_call_one rfl 40 _ _ rfl (.string singlesBA) rfl (enters_of Tryd.func40 (by kernel_rfl) rfl _ _) _ _ (callsIn_wide.2 (entries_calls singlesBA _)) ?_
    refine wpListIn_nil ?_
    rw [Hc2.out]
    gi_upto_region 16 with (fail)
    obtain ⟨W2, hW2⟩ : ∃ W2, W2 = W1.alloc (.cells #[.string (txt s2)] 9) := ⟨_, rfl⟩
    have hs2' : W2.heap.size = W1.heap.size + 1 := by rw [hW2]; simp
    have H2 := HH1.out.1.grow (W' := W2) (by rw [hW2]; exact (Below.refl _ _).alloc (Nat.le_refl _) _)
    have hD2 : W2.heap[W0.heap.size]? = some (.deferred (some [])) := by rw [hW2]; exact (Below.heap_alloc _ _ _ (Array.getElem?_eq_some_iff.1 HH1.out.2).1).trans HH1.out.2
    have cT2 : W2.cell? ⟨W1.heap.size, 0, none⟩ = some (.string (txt s2)) := by
      have : Boxed W2 W1.heap.size 9 (.string (txt s2)) := by rw [hW2]; exact Boxed.new _ _ _
      exact this.cell
    rw [← hW2]
    have HW2 := Lib.hid hW2
    clear hW2 cA fA
    have hn2 : w.heap.size + 5 ≤ W2.heap.size := H2.sz
    refine wpIn_iter (gf := 60) (lb := #[.pointer (some ⟨W1.heap.size, 0, none⟩)]) rfl (enters_of Tryd.func60 (by kernel_rfl) rfl)
      (entries1 s2 (by omega) Ha2.out W1.heap.size W2.heap.size) (Nat.le_refl _) (by intro x hx; obtain ⟨y, _, rfl⟩ := List.mem_map.1 hx; rfl)
      (fun o1 o2 => ⟨by rw [(Below.refl W2.heap.size W2).alloc (Nat.le_refl _) o1 |>.alloc (by simp) o2 |>.cell (p := ⟨W1.heap.size, 0, none⟩) (by simp; omega)]; exact cT2, by simp; omega, by simp, by simp; omega⟩)
      (fun i W => ∃ one, Boxed W (w.heap.size + 2) 69 one ∧ W.ownsRow W2.heap.size 75 2 one (sgAll (rows2.take i)).2.length (flatE (sgAll (rows2.take i)).2) ∧ Boxed W (w.heap.size + 3) 21 (.int .i32 (sgAll (rows2.take i)).1) ∧
        Two (w.heap.size + 2) (w.heap.size + 3) W2 W)
      (fun i W h => by obtain ⟨one, _, _, _, h4⟩ := h; exact hcg _ (H2.chg.two h4 (by omega) (by omega)))
      (fun i Wa Wb h st => by
        obtain ⟨one, h1, h2, h3, h4⟩ := h
        exact ⟨one, st.block _ _ h1 (.inl rfl), ownsRow_step h2 st rfl, st.block _ _ h3 (.inl rfl), h4.step st⟩)
      ⟨_, H2.lo, World.ownsRow_nil _ _ _ _, H2.ps, Two.refl _ _ _⟩
      (fun i a' W => ∃ Nb : Nat, ∃ h : i < rows2.length, W.heap[Nb]? = some (Obj.cells #[.int .i32 rows2[i].1, .int .i32 rows2[i].2.1, .int .i32 rows2[i].2.2] 73 (0, 0)) ∧ W2.heap.size ≤ Nb ∧
        ∃ n0 : Value, ∃ b0 : Value, a' = { tmps := #[.pointer (some ⟨p, 0, none⟩), .pointer (some ⟨w.heap.size, 0, none⟩), .pointer (some ⟨w.heap.size + 1, 0, none⟩), .pointer (some ⟨w.heap.size + 2, 0, none⟩), .pointer (some ⟨w.heap.size + 3, 0, none⟩), undef, undef, undef, .pointer (some ⟨Nb, 0, none⟩), .func (.func 60) #[] #[.pointer (some ⟨w.heap.size + 4, 0, none⟩)], undef, undef, undef, undef, undef, undef, undef, undef, undef, undef, undef, undef, undef, undef, undef, undef, undef, undef, undef, undef, undef, undef, undef, undef, undef, undef, undef, undef, undef, undef, undef, undef, undef, undef, undef, undef, undef, undef, undef, undef, undef, undef, undef, undef, undef, undef, undef, undef, undef, undef, undef, undef, undef, undef, undef, .func (.func 60) #[] #[.pointer (some ⟨W1.heap.size, 0, none⟩)], n0, b0, undef, undef, undef, undef, undef, undef, undef, undef, undef, undef, undef, undef, undef, undef, undef, undef, undef, undef, undef, undef, undef, undef, undef, undef, undef, undef, undef, undef, undef, undef, undef, undef, undef, undef], defers := [] })
      (fun i a' W1 W2 h st => by
        obtain ⟨Nb, hi, h1, h2⟩ := h
        exact ⟨Nb, hi, st.block Nb _ h1 (.inl rfl), h2⟩) ?assign2 ?body2 ?done2
    case assign2 =>
      intro i h Wr K hi hK
      have hlt : i < rows2.length := by rw [Hrows2.out]; simpa [sgRows] using h
      have hlt2 : i < (textParts s2).length := by simpa using h
      have e : ((textParts s2).map rowOf)[i] = #[.agg #[.int .i32 rows2[i].1, .int .i32 rows2[i].2.1, .int .i32 rows2[i].2.2], .bool (entB (textParts s2)[i])] := by
        simp only [List.getElem_map, rowOf_ent, Hrows2.out, sgRows]
      rw [e]
      obtain ⟨bb, hbb⟩ : ∃ bb, bb = entB (textParts s2)[i] := ⟨_, rfl⟩
      rw [← hbb]
      obtain ⟨r0, hr0⟩ : ∃ r0, r0 = rows2[i] := ⟨_, rfl⟩
      have hK' := fun a' W' => hK a' W'
      rw [← hr0]
      clear hbb hK
      have HK := Lib.hid hK'
      have Hr0 := Lib.hid hr0
      have h5' : W2.heap.size ≤ Wr.heap.size := by obtain ⟨one, _, _, _, h4⟩ := hi; exact h4.size
      have Hi := Lib.hid hi
      clear hK' hi e hr0 hcg cT2 H2 hD2
      gi_wp2
      refine HK.out _ _ (ItKeeps.of_below ((Below.refl Wr.heap.size Wr).alloc (Nat.le_refl _) _) (Nat.le_refl _)) ?_ ⟨Wr.heap.size, hlt, ?_, h5', _, _, rfl⟩
      · obtain ⟨one, h1, h2, h3, h4⟩ := Hi.out
        have st : ItStep itE W2.heap.size nil0 Wr (Wr.alloc (.cells #[.int .i32 r0.1, .int .i32 r0.2.1, .int .i32 r0.2.2] 73)) := (ItStep.refl _ _ _ _).alloc _
        exact ⟨one, st.block _ _ h1 (.inl rfl), ownsRow_step h2 st rfl, st.block _ _ h3 (.inl rfl), h4.step st⟩
      · rw [← Hr0.out]; exact heap_alloc_new _ _
    case body2 =>
      rintro i h a' Wr hlt ⟨rr, hr⟩ ⟨lv, h1, h2, h3, h4⟩ ⟨Nb, hi, hN, hNb, n0, b0, rfl⟩
      obtain ⟨st, hst⟩ : ∃ st, st = sgAll (rows2.take i) := ⟨_, rfl⟩
      obtain ⟨r0, hr0⟩ : ∃ r0, r0 = rows2[i] := ⟨_, rfl⟩
      rw [← hst] at h2 h3
      rw [← hr0] at hN
      have hnext : sgAll (rows2.take (i + 1)) = sgRow st r0 := by rw [sgAll_take rows2 i hi, ← hst, ← hr0]
      have hlen1 : st.2.length ≤ 100000 := by rw [hst, sgAll_len, List.length_take]; omega
      have hv0 := Hr2.out r0 (by rw [hr0]; exact List.getElem_mem _)
      rw [hnext]
      clear hst hr0 hnext hr hcg cT2 H2 hD2
      obtain ⟨n0', n1, n2⟩ := r0
      have hw64 : wrap64 n1 = n1 := by simp only [InI32] at hv0; unfold wrap64; omega
      clear hv0
      obtain ⟨at0, es0⟩ := st
      simp only at hN hlen1 h2 h3
      simp only [sgRow]
      have cN0 : Wr.cell? ⟨Nb, 0, none⟩ = some (.int .i32 n0') := by rw [cell_of_row _ _ _ _ _ _ hN]; rfl
      have cA := h3.cell
      have fA := h3.frozen
      obtain ⟨W5, hW5⟩ : ∃ W5, W5 = Wr.setCell ⟨w.heap.size + 3, 0, none⟩ (.int .i32 (wrap32 (at0 + n0'))) := ⟨_, rfl⟩
      have hNA : Nb ≠ w.heap.size + 3 := by omega
      have hN5 : W5.heap[Nb]? = some (.cells #[.int .i32 n0', .int .i32 n1, .int .i32 n2] 73 (0, 0)) := by rw [hW5]; exact (Below.heap_setCell _ _ _ _ hNA).trans hN
      have hL5 : Boxed W5 (w.heap.size + 2) 69 lv := by rw [hW5]; exact (Below.heap_setCell _ _ _ _ (by simp)).trans h1
      have hA5 : Boxed W5 (w.heap.size + 3) 21 (.int .i32 (wrap32 (at0 + n0'))) := by rw [hW5]; exact h3.set _
      have hr5 : W5.ownsRow W2.heap.size 75 2 lv es0.length (flatE es0) := by rw [hW5]; exact ownsRow_setCell_below h2 (by simp; omega) _
      have hT5 : Two (w.heap.size + 2) (w.heap.size + 3) W2 W5 := by
        rw [hW5]; exact ⟨h4.os, h4.tape, h4.output, by simpa [World.setCell] using h4.size, fun k hk hx hy => (Below.heap_setCell _ _ _ _ hy).trans (h4.block k hk hx hy)⟩
      have hK5 : ItKeeps itE W2.heap.size nil0 Wr W5 := by rw [hW5]; exact (ItKeeps.refl _ _ _ _).setCell _ _ (fun _ _ _ hh => by simp at hh; omega)
      have HW5 := Lib.hid hW5
      have Hold := Lib.hid (And.intro h1 (And.intro h2 (And.intro h3 (And.intro h4 hN))))
      clear hW5 h1 h2 h3 h4 hN
      gi_upto_region 18 with (fail)
      rw [← HW5.out]
      clear cN0 cA fA
      have cL := hL5.cell
      have fL := hL5.frozen
      have cA := hA5.cell
      have cN1 : W5.cell? ⟨Nb, 1, none⟩ = some (.int .i32 n1) := by rw [cell_of_row _ _ _ _ _ _ hN5]; rfl
      obtain ⟨ie, ze, hie, hze, i1, i2, i3⟩ := entryInfo
      have hs5 : W2.heap.size ≤ W5.heap.size := hT5.size
      obtain ⟨at1, hat1⟩ : ∃ at1, at1 = wrap32 (at0 + n0') := ⟨_, rfl⟩
      rw [← hat1] at cA hA5
      have hrA := ownsRow_alloc hr5 (.cells #[.int .i32 at1, .int .i64 n1] 75)
      have hnL : some (w.heap.size + 2) ≠ lv.ownBlock := fun e => by have := (hr5.lt _ e.symm).1; omega
      have hnA : some (w.heap.size + 3) ≠ lv.ownBlock := fun e => by have := (hr5.lt _ e.symm).1; omega
      rw [← hat1]
      have Hat := Lib.hid hat1
      clear hat1
      gi_wp2_with (gi_at_builtin; refine wpListIn_append_own _ rfl _ _ 69 rfl W2.heap.size 75 ie ze 2 16 Tryd.underlying69 hie hze i1 i2 i3 (by omega) lv es0.length (flatE es0) rfl hrA ⟨W5.heap.size, 0, none⟩ 1 1 [.int .i32 at1, .int .i64 n1] rfl rfl (by intro j u hu; rw [Addr.add_mid, cell_of_row _ _ _ _ _ _ (heap_alloc_new _ _)]; simpa using hu) (by intro u hu; simp at hu; rcases hu with rfl | rfl <;> rfl) (by unfold maxLen; omega) (by omega) (by simp; omega) ?_; intro v' w' hown hgrow _; obtain ⟨g', cap', rfl, hg1, _⟩ := hown.form (by omega); have hL' := (hL5.alloc (.cells #[.int .i32 at1, .int .i64 n1] 75)).kept hgrow hnL; have hA' := (hA5.alloc (.cells #[.int .i32 at1, .int .i64 n1] 75)).kept hgrow hnA; have cL' := hL'.cell; have fL' := hL'.frozen)
      refine ⟨?_, .slice (some ⟨g', 0, none⟩) (es0.length + 1) cap', hL'.set _, ?_, ?_, ?_⟩
      · exact ((hK5.alloc _).trans (ItKeeps.of_grown hgrow (fun k o hk hko hio hbk => by
          obtain ⟨_, cur, hcur⟩ := ownsRow_block hrA hk
          rw [hcur] at hko; cases hko; simp [itObj, itE] at hio))).setCell _ _ (fun _ _ _ hh => by simp at hh; omega)
      · rw [flatE_snoc, ← Hat.out]
        have := ownsRow_setCell_below (a := ⟨w.heap.size + 2, 0, none⟩) hown (by simp; omega) (.slice (some ⟨g', 0, none⟩) (es0.length + 1) cap')
        simpa using this
      · rw [← Hat.out]; exact (Below.heap_setCell _ _ _ _ (by simp)).trans hA'
      · refine ⟨hgrow.os.trans hT5.os, hgrow.tape.trans hT5.tape, hgrow.output.trans hT5.output, ?_, fun k hk hx hy => ?_⟩
        · have := hgrow.size
          simp [World.setCell] at this ⊢; omega
        · exact (Below.heap_setCell _ _ _ _ hx).trans ((hgrow.block k (by simp; omega) (fun e => by have := (hr5.lt _ e.symm).1; omega)).trans ((Below.heap_alloc _ _ _ (by omega)).trans (hT5.block k hk hx hy)))
    case done2 =>
      rintro W5 hlt ⟨one, h1, h2, h3, h4⟩ hD5
      have e2 : ((textParts s2).map rowOf).length = rows2.length := by rw [Hrows2.out]; simp [sgRows]
      rw [e2, List.take_length] at h2 h3
      clear e2 hcg cT2
      obtain ⟨lv, hL, hrl⟩ := H2.l
      obtain ⟨cs, vp, c9, t1, t2, t3, t4, t5, t6, t7, t8⟩ := H2.tb
      have kp : ∀ (k : Nat) (o : Obj), W2.heap[k]? = some o → k ≠ w.heap.size + 2 → k ≠ w.heap.size + 3 → W5.heap[k]? = some o := fun k o hk a b => (h4.block k (Array.getElem?_eq_some_iff.1 hk).1 a b).trans hk
      have hrl5 : W5.ownsRow (w.heap.size + 5) 75 2 lv (psAll rows).es.length (flatE (psAll rows).es) := ⟨hrl.1, hrl.2.imp id fun ⟨g, cap, cur, k1, k2, k3, k4⟩ => ⟨g, cap, cur, k1, k2, kp _ _ k3 (by omega) (by omega), k4⟩⟩
      have rdl : RdEnt W5 lv (psAll rows).es := rdEnt_of hrl5 (by have := (psAll_len rows).2.1; omega)
      have rdo : RdEnt W5 one (sgAll rows2).2 := rdEnt_of h2 (by have := sgAll_len rows2; omega)
      have rdl' : RdEnt W5.drew lv (psAll rows).es := rdl
      have rdo' := rdo
      obtain ⟨A1, c1, rfl, _, _⟩ := rdl
      obtain ⟨A2, c2, rfl, _, _⟩ := rdo
      have cB := (show Boxed W5 w.heap.size _ _ from kp _ _ H2.b1 (by omega) (by omega)).cell
      have cL := (show Boxed W5 (w.heap.size + 1) _ _ from kp _ _ hL (by omega) (by omega)).cell
      have cO := h1.cell
      have tp5 := kp _ _ t1 (by omega) (by omega)
      have hp5l : p < W5.heap.size := (Array.getElem?_eq_some_iff.1 tp5).1
      have hb5l : w.heap.size + 2 < W5.heap.size := h1.lt
      obtain ⟨x1, hx1⟩ : ∃ x1, cs[1]? = some x1 := ⟨cs[1], Array.getElem?_eq_getElem (by omega)⟩
      obtain ⟨x2, hx2⟩ : ∃ x2, cs[2]? = some x2 := ⟨cs[2], Array.getElem?_eq_getElem (by omega)⟩
      have cp1 : W5.cell? ⟨p, 1, none⟩ = some x1 := by rw [cell_of_row _ _ _ _ _ _ tp5]; exact hx1
      have cp2 : W5.cell? ⟨p, 2, none⟩ = some x2 := by rw [cell_of_row _ _ _ _ _ _ tp5]; exact hx2
      have fp1 : W5.frozen? ⟨p, 1, none⟩ = false := frozen_of_row _ _ _ _ _ tp5
      have fp2 : W5.frozen? ⟨p, 2, none⟩ = false := frozen_of_row _ _ _ _ _ tp5
      have Ht := Lib.hid (And.intro tp5 (And.intro t2 (And.intro t3 (And.intro t4 (And.intro t5 (And.intro t6 (And.intro t7 t8)))))))
      clear tp5 hx1 hx2
      have hS : (fun W' : World => W'.cell? ⟨w.heap.size, 0, none⟩ = some (.pointer (some ⟨p, 0, none⟩)) ∧ W'.cell? ⟨w.heap.size + 1, 0, none⟩ = some (.slice A1 (psAll rows).es.length c1) ∧ W'.cell? ⟨w.heap.size + 2, 0, none⟩ = some (.slice A2 (sgAll rows2).2.length c2)) W5.drew := ⟨cB, cL, cO⟩
      have hmix : Tryd.prog.follows .mixedOrders = true := by kernel_rfl
      have Hrd := Lib.hid (And.intro rdl' rdo')
      have HH2 := Lib.hid H2
      have Hm := Lib.hid (And.intro h1 (And.intro h2 (And.intro h3 (And.intro h4 (And.intro hD5 (And.intro hL (And.intro hrl (And.intro t1 kp))))))))
      clear h1 h2 h3 h4 hD5 hL hrl t1 t2 t3 t4 t5 t6 t7 t8 kp hrl5 rdo' rdl' H2
      gi_upto_region 19 with (fail)
      refine wpIn_region_W (S := fun W' => W'.cell? ⟨w.heap.size, 0, none⟩ = some (.pointer (some ⟨p, 0, none⟩)) ∧ W'.cell? ⟨w.heap.size + 1, 0, none⟩ = some (.slice A1 (psAll rows).es.length c1) ∧ W'.cell? ⟨w.heap.size + 2, 0, none⟩ = some (.slice A2 (sgAll rows2).2.length c2)) hmix (by kernel_rfl) ?_
      refine wpAnyH_take (i := 0) (v := ?_) rfl (by kernel_rfl) (by kernel_rfl) (by kernel_rfl) (fun _ _ _ h => h) (Or.inl ⟨by rfl, ?_⟩) hS ?_
      rotate_left
      · (intro W' hS'; (try dsimp only at hS'); go_simp; with_reducible rfl)
      try simp only [Act.put, List.setIfInBounds_toArray, List.set_cons_zero, List.set_cons_succ]
      refine wpAnyH_take (i := 1) (v := ?_) rfl (by kernel_rfl) (by kernel_rfl) (by kernel_rfl) (fun _ _ _ h => h) (Or.inl ⟨by rfl, ?_⟩) hS ?_
      rotate_left
      · (intro W' hS'; (try dsimp only at hS'); go_simp; with_reducible rfl)
      try simp only [Act.put, List.setIfInBounds_toArray, List.set_cons_zero, List.set_cons_succ]
      refine wpAnyH_take (i := 2) (v := ?_) rfl (by kernel_rfl) (by kernel_rfl) (by kernel_rfl) (fun _ _ _ h => h) (Or.inl ⟨by rfl, ?_⟩) hS ?_
      rotate_left
      · (intro W' hS'; (try dsimp only at hS'); go_simp; with_reducible rfl)
      try simp only [Act.put, List.setIfInBounds_toArray, List.set_cons_zero, List.set_cons_succ]
      refine wpAnyH_take (i := 4) (v := ?_) rfl (by kernel_rfl) (by kernel_rfl) (by kernel_rfl) (fun _ _ _ h => h) (Or.inl ⟨by rfl, ?_⟩) hS ?_
      rotate_left
      · (intro W' hS'; (try dsimp only at hS'); go_simp; with_reducible rfl)
      try simp only [Act.put, List.setIfInBounds_toArray, List.set_cons_zero, List.set_cons_succ]
      refine wpAnyH_ready (rs := [3]) (by kernel_rfl) (by simp) ?_
      refine AllReadyH.cons rfl (fun K hK => ?_) AllReadyH.nil
      go_simp
      refine (sbuild_calls _ _ _ Hrd.out.1 Hes1.out).mono ?_
      rintro e w7 ⟨pp, rfl, hle7, hbe7, htab7⟩
      simp only []
      have hs7 : W5.heap.size ≤ w7.heap.size := hbe7.size
      have hS7 : (fun W' : World => W'.cell? ⟨w.heap.size, 0, none⟩ = some (.pointer (some ⟨p, 0, none⟩)) ∧ W'.cell? ⟨w.heap.size + 1, 0, none⟩ = some (.slice A1 (psAll rows).es.length c1) ∧ W'.cell? ⟨w.heap.size + 2, 0, none⟩ = some (.slice A2 (sgAll rows2).2.length c2)) w7 := ⟨(hbe7.cell (p := ⟨w.heap.size, 0, none⟩) (show w.heap.size < W5.heap.size by omega)).trans cB, (hbe7.cell (p := ⟨w.heap.size + 1, 0, none⟩) (show w.heap.size + 1 < W5.heap.size by omega)).trans cL, (hbe7.cell (p := ⟨w.heap.size + 2, 0, none⟩) hb5l).trans cO⟩
      refine hK.out _ _ hS7 (fun _ => ?_)
      clear hK K
      refine wpAnyH_ready (rs := [5]) (by kernel_rfl) (by simp) ?_
      refine AllReadyH.cons rfl (fun K hK => ?_) AllReadyH.nil
      go_simp
      refine (sbuild_calls _ _ _ (RdEnt.below (W := W5.drew) Hrd.out.2 hbe7 (Nat.le_refl _)) Hes2.out).mono ?_
      rintro e w8 ⟨ps', rfl, hle8, hbe8, htab8⟩
      simp only []
      have hs8 : w7.heap.size ≤ w8.heap.size := hbe8.size
      have hS8 : (fun W' : World => W'.cell? ⟨w.heap.size, 0, none⟩ = some (.pointer (some ⟨p, 0, none⟩)) ∧ W'.cell? ⟨w.heap.size + 1, 0, none⟩ = some (.slice A1 (psAll rows).es.length c1) ∧ W'.cell? ⟨w.heap.size + 2, 0, none⟩ = some (.slice A2 (sgAll rows2).2.length c2)) w8 := ⟨(hbe8.cell (p := ⟨w.heap.size, 0, none⟩) (by show w.heap.size < w7.heap.size; omega)).trans hS7.1, (hbe8.cell (p := ⟨w.heap.size + 1, 0, none⟩) (by show w.heap.size + 1 < w7.heap.size; omega)).trans hS7.2.1, (hbe8.cell (p := ⟨w.heap.size + 2, 0, none⟩) (by show w.heap.size + 2 < w7.heap.size; omega)).trans hS7.2.2⟩
      have cp18 : w8.cell? ⟨p, 1, none⟩ = some x1 := (hbe8.cell (p := ⟨p, 1, none⟩) (by show p < w7.heap.size; omega)).trans ((hbe7.cell (p := ⟨p, 1, none⟩) hp5l).trans cp1)
      have cp28 : w8.cell? ⟨p, 2, none⟩ = some x2 := (hbe8.cell (p := ⟨p, 2, none⟩) (by show p < w7.heap.size; omega)).trans ((hbe7.cell (p := ⟨p, 2, none⟩) hp5l).trans cp2)
      have fp18 : w8.frozen? ⟨p, 1, none⟩ = false := (hbe8.frozen (p := ⟨p, 1, none⟩) (by show p < w7.heap.size; omega)).trans ((hbe7.frozen (p := ⟨p, 1, none⟩) hp5l).trans fp1)
      have fp28 : w8.frozen? ⟨p, 2, none⟩ = false := (hbe8.frozen (p := ⟨p, 2, none⟩) (by show p < w7.heap.size; omega)).trans ((hbe7.frozen (p := ⟨p, 2, none⟩) hp5l).trans fp2)
      refine hK.out _ _ hS8 (fun _ => ?_)
      clear hK K
      refine wpAnyH_take (i := 6) (v := ?_) rfl (by kernel_rfl) (by kernel_rfl) (by kernel_rfl) (fun _ _ _ h => h) (Or.inl ⟨by rfl, ?_⟩) hS8 ?_
      rotate_left
      · (intro W' hS'; (try dsimp only at hS'); go_simp; with_reducible rfl)
      try simp only [Act.put, List.setIfInBounds_toArray, List.set_cons_zero, List.set_cons_succ]
      refine wpAnyH_take (i := 7) (v := ?_) rfl (by kernel_rfl) (by kernel_rfl) (by kernel_rfl) (fun _ _ _ h => h) (Or.inl ⟨by rfl, ?_⟩) hS8 ?_
      rotate_left
      · (intro W' hS'; (try dsimp only at hS'); go_simp; with_reducible rfl)
      try simp only [Act.put, List.setIfInBounds_toArray, List.set_cons_zero, List.set_cons_succ]
      refine wpAnyH_ready (rs := [8]) (by kernel_rfl) (by simp) ?_
      refine AllReadyH.cons rfl (fun K hK => ?_) AllReadyH.nil
      go_simp
      have hbp : w.heap.size ≠ p := by omega
      have hS9 : (fun W' : World => W'.cell? ⟨w.heap.size, 0, none⟩ = some (.pointer (some ⟨p, 0, none⟩)) ∧ W'.cell? ⟨w.heap.size + 1, 0, none⟩ = some (.slice A1 (psAll rows).es.length c1) ∧ W'.cell? ⟨w.heap.size + 2, 0, none⟩ = some (.slice A2 (sgAll rows2).2.length c2)) (w8.setCell ⟨p, 1, none⟩ (.pointer (some ⟨pp, 0, none⟩))) :=
        ⟨(World.cell?_of_block (w := w8) (Below.heap_setCell w8 _ _ _ hbp)).trans hS8.1, (World.cell?_of_block (w := w8) (Below.heap_setCell w8 _ _ _ (by simp; omega))).trans hS8.2.1, (World.cell?_of_block (w := w8) (Below.heap_setCell w8 _ _ _ (by simp; omega))).trans hS8.2.2⟩
      have hS10 : (fun W' : World => W'.cell? ⟨w.heap.size, 0, none⟩ = some (.pointer (some ⟨p, 0, none⟩)) ∧ W'.cell? ⟨w.heap.size + 1, 0, none⟩ = some (.slice A1 (psAll rows).es.length c1) ∧ W'.cell? ⟨w.heap.size + 2, 0, none⟩ = some (.slice A2 (sgAll rows2).2.length c2)) ((w8.setCell ⟨p, 1, none⟩ (.pointer (some ⟨pp, 0, none⟩))).setCell ⟨p, 2, none⟩ (.pointer (some ⟨ps', 0, none⟩))) :=
        ⟨(World.cell?_of_block (w := w8.setCell ⟨p, 1, none⟩ (.pointer (some ⟨pp, 0, none⟩))) (Below.heap_setCell _ _ _ _ hbp)).trans hS9.1, (World.cell?_of_block (w := w8.setCell ⟨p, 1, none⟩ (.pointer (some ⟨pp, 0, none⟩))) (Below.heap_setCell _ _ _ _ (by simp; omega))).trans hS9.2.1, (World.cell?_of_block (w := w8.setCell ⟨p, 1, none⟩ (.pointer (some ⟨pp, 0, none⟩))) (Below.heap_setCell _ _ _ _ (by simp; omega))).trans hS9.2.2⟩
      refine hK.out _ _ hS9 (fun _ => ?_)
      clear hK K
      refine wpAnyH_take (i := 9) (v := ?_) rfl (by kernel_rfl) (by kernel_rfl) (by kernel_rfl) (fun _ _ _ h => h) (Or.inl ⟨by rfl, ?_⟩) hS9 ?_
      rotate_left
      · (intro W' hS'; (try dsimp only at hS'); go_simp; with_reducible rfl)
      try simp only [Act.put, List.setIfInBounds_toArray, List.set_cons_zero, List.set_cons_succ]
      refine wpAnyH_take (i := 10) (v := ?_) rfl (by kernel_rfl) (by kernel_rfl) (by kernel_rfl) (fun _ _ _ h => h) (Or.inl ⟨by rfl, ?_⟩) hS9 ?_
      rotate_left
      · (intro W' hS'; (try dsimp only at hS'); go_simp; with_reducible rfl)
      try simp only [Act.put, List.setIfInBounds_toArray, List.set_cons_zero, List.set_cons_succ]
      refine wpAnyH_ready (rs := [11]) (by kernel_rfl) (by simp) ?_
      refine AllReadyH.cons rfl (fun K hK => ?_) AllReadyH.nil
      go_simp
      refine hK.out _ _ hS10 (fun _ => ?_)
      clear hK K
      refine wpAnyH_done (by kernel_rfl) ?_ _
      show Exit.then _ _ Exit.normal _ _
      obtain ⟨W9, hW9⟩ : ∃ W9, W9 = (w8.setCell ⟨p, 1, none⟩ (.pointer (some ⟨pp, 0, none⟩))).setCell ⟨p, 2, none⟩ (.pointer (some ⟨ps', 0, none⟩)) := ⟨_, rfl⟩
      rw [← hW9] at hS10 ⊢
      have HW9 := Lib.hid (And.intro hW9 (And.intro hbe7 (And.intro hbe8 (And.intro htab7 (And.intro htab8 (And.intro hle7 hle8))))))
      have cp9 : ∃ x7 x8, W9.cell? ⟨p, 7, none⟩ = some x7 ∧ W9.cell? ⟨p, 8, none⟩ = some x8 ∧ W9.frozen? ⟨p, 7, none⟩ = false ∧ W9.frozen? ⟨p, 8, none⟩ = false := by
        rw [hW9]; exact cells78 Ht.out.1 Ht.out.2.1 hbe7 hbe8
      clear hW9 hbe7 hbe8 htab7 htab8 hle7 hle8 cp18 cp28 fp18 fp28 hS9 hS8 hS7 cp1 cp2 fp1 fp2 cB cL cO hS
      obtain ⟨x7, x8, cp7, cp8, fp7, fp8⟩ := cp9
      gi_upto_region 20 with (fail)
      have hbp' : w.heap.size ≠ p := by omega
      have hS21 : (fun W' : World => W'.cell? ⟨w.heap.size, 0, none⟩ = some (.pointer (some ⟨p, 0, none⟩)) ∧ W'.cell? ⟨w.heap.size + 1, 0, none⟩ = some (.slice A1 (psAll rows).es.length c1) ∧ W'.cell? ⟨w.heap.size + 2, 0, none⟩ = some (.slice A2 (sgAll rows2).2.length c2)) (W9.setCell ⟨p, 7, none⟩ (.int .i64 ((psAll rows).es.length : Int))).drew :=
        ⟨(World.cell?_of_block (w := W9) (Below.heap_setCell W9 _ _ _ hbp')).trans hS10.1, (World.cell?_of_block (w := W9) (Below.heap_setCell W9 _ _ _ (by simp; omega))).trans hS10.2.1, (World.cell?_of_block (w := W9) (Below.heap_setCell W9 _ _ _ (by simp; omega))).trans hS10.2.2⟩
      have hS22 : (fun W' : World => W'.cell? ⟨w.heap.size, 0, none⟩ = some (.pointer (some ⟨p, 0, none⟩)) ∧ W'.cell? ⟨w.heap.size + 1, 0, none⟩ = some (.slice A1 (psAll rows).es.length c1) ∧ W'.cell? ⟨w.heap.size + 2, 0, none⟩ = some (.slice A2 (sgAll rows2).2.length c2)) ((W9.setCell ⟨p, 7, none⟩ (.int .i64 ((psAll rows).es.length : Int))).setCell ⟨p, 8, none⟩ (.int .i64 ((sgAll rows2).2.length : Int))).drew :=
        ⟨(World.cell?_of_block (w := W9.setCell ⟨p, 7, none⟩ (.int .i64 ((psAll rows).es.length : Int))) (Below.heap_setCell _ _ _ _ hbp')).trans hS21.1, (World.cell?_of_block (w := W9.setCell ⟨p, 7, none⟩ (.int .i64 ((psAll rows).es.length : Int))) (Below.heap_setCell _ _ _ _ (by simp; omega))).trans hS21.2.1, (World.cell?_of_block (w := W9.setCell ⟨p, 7, none⟩ (.int .i64 ((psAll rows).es.length : Int))) (Below.heap_setCell _ _ _ _ (by simp; omega))).trans hS21.2.2⟩
      have hS20 : (fun W' : World => W'.cell? ⟨w.heap.size, 0, none⟩ = some (.pointer (some ⟨p, 0, none⟩)) ∧ W'.cell? ⟨w.heap.size + 1, 0, none⟩ = some (.slice A1 (psAll rows).es.length c1) ∧ W'.cell? ⟨w.heap.size + 2, 0, none⟩ = some (.slice A2 (sgAll rows2).2.length c2)) W9.drew := hS10
      refine wpIn_region_W (S := fun W' : World => W'.cell? ⟨w.heap.size, 0, none⟩ = some (.pointer (some ⟨p, 0, none⟩)) ∧ W'.cell? ⟨w.heap.size + 1, 0, none⟩ = some (.slice A1 (psAll rows).es.length c1) ∧ W'.cell? ⟨w.heap.size + 2, 0, none⟩ = some (.slice A2 (sgAll rows2).2.length c2)) hmix (by kernel_rfl) ?_
      refine wpAnyH_take (i := 0) (v := ?_) rfl (by kernel_rfl) (by kernel_rfl) (by kernel_rfl) (fun _ _ _ h => h) (Or.inl ⟨by rfl, ?_⟩) hS20 ?_
      rotate_left
      · (intro W' hS'; (try dsimp only at hS'); go_simp; with_reducible rfl)
      try simp only [Act.put, List.setIfInBounds_toArray, List.set_cons_zero, List.set_cons_succ]
      refine wpAnyH_take (i := 1) (v := ?_) rfl (by kernel_rfl) (by kernel_rfl) (by kernel_rfl) (fun _ _ _ h => h) (Or.inl ⟨by rfl, ?_⟩) hS20 ?_
      rotate_left
      · (intro W' hS'; (try dsimp only at hS'); go_simp; with_reducible rfl)
      try simp only [Act.put, List.setIfInBounds_toArray, List.set_cons_zero, List.set_cons_succ]
      refine wpAnyH_take (i := 2) (v := ?_) rfl (by kernel_rfl) (by kernel_rfl) (by kernel_rfl) (fun _ _ _ h => h) (Or.inl ⟨by rfl, ?_⟩) hS20 ?_
      rotate_left
      · (intro W' hS'; (try dsimp only at hS'); go_simp; with_reducible rfl)
      try simp only [Act.put, List.setIfInBounds_toArray, List.set_cons_zero, List.set_cons_succ]
      refine wpAnyH_take (i := 4) (v := ?_) rfl (by kernel_rfl) (by kernel_rfl) (by kernel_rfl) (fun _ _ _ h => h) (Or.inl ⟨by rfl, ?_⟩) hS20 ?_
      rotate_left
      · (intro W' hS'; (try dsimp only at hS'); go_simp; with_reducible rfl)
      try simp only [Act.put, List.setIfInBounds_toArray, List.set_cons_zero, List.set_cons_succ]
      refine wpAnyH_take (i := 3) (v := ?_) rfl (by kernel_rfl) (by kernel_rfl) (by kernel_rfl) (fun _ _ _ h => h) (Or.inl ⟨by rfl, ?_⟩) hS20 ?_
      rotate_left
      · (intro W' hS'; (try dsimp only at hS'); go_simp; with_reducible rfl)
      try simp only [Act.put, List.setIfInBounds_toArray, List.set_cons_zero, List.set_cons_succ]
      refine wpAnyH_take (i := 5) (v := ?_) rfl (by kernel_rfl) (by kernel_rfl) (by kernel_rfl) (fun _ _ _ h => h) (Or.inl ⟨by rfl, ?_⟩) hS20 ?_
      rotate_left
      · (intro W' hS'; (try dsimp only at hS'); go_simp; with_reducible rfl)
      try simp only [Act.put, List.setIfInBounds_toArray, List.set_cons_zero, List.set_cons_succ]
      refine wpAnyH_take (i := 6) (v := ?_) rfl (by kernel_rfl) (by kernel_rfl) (by kernel_rfl) (fun _ _ _ h => h) (Or.inl ⟨by rfl, ?_⟩) hS20 ?_
      rotate_left
      · (intro W' hS'; (try dsimp only at hS'); go_simp; with_reducible rfl)
      try simp only [Act.put, List.setIfInBounds_toArray, List.set_cons_zero, List.set_cons_succ]
      refine wpAnyH_take (i := 7) (v := ?_) rfl (by kernel_rfl) (by kernel_rfl) (by kernel_rfl) (fun _ _ _ h => h) (Or.inl ⟨by rfl, ?_⟩) hS20 ?_
      rotate_left
      · (intro W' hS'; (try dsimp only at hS'); go_simp; with_reducible rfl)
      try simp only [Act.put, List.setIfInBounds_toArray, List.set_cons_zero, List.set_cons_succ]
      refine wpAnyH_take (i := 8) (v := ?_) rfl (by kernel_rfl) (by kernel_rfl) (by kernel_rfl) (fun _ _ _ h => h) (Or.inl ⟨by rfl, ?_⟩) hS20 ?_
      rotate_left
      · (intro W' hS'; (try dsimp only at hS'); go_simp; with_reducible rfl)
      try simp only [Act.put, List.setIfInBounds_toArray, List.set_cons_zero, List.set_cons_succ]
      refine wpAnyH_take (i := 10) (v := ?_) rfl (by kernel_rfl) (by kernel_rfl) (by kernel_rfl) (fun _ _ _ h => h) (Or.inl ⟨by rfl, ?_⟩) hS20 ?_
      rotate_left
      · (intro W' hS'; (try dsimp only at hS'); go_simp; with_reducible rfl)
      try simp only [Act.put, List.setIfInBounds_toArray, List.set_cons_zero, List.set_cons_succ]
      refine wpAnyH_take (i := 11) (v := ?_) rfl (by kernel_rfl) (by kernel_rfl) (by kernel_rfl) (fun _ _ _ h => h) (Or.inl ⟨by rfl, ?_⟩) hS20 ?_
      rotate_left
      · (intro W' hS'; (try dsimp only at hS'); go_simp; with_reducible rfl)
      try simp only [Act.put, List.setIfInBounds_toArray, List.set_cons_zero, List.set_cons_succ]
      refine wpAnyH_ready (rs := [9]) (by kernel_rfl) (by simp) ?_
      refine AllReadyH.cons rfl (fun K hK => ?_) AllReadyH.nil
      go_simp
      refine hK.out _ _ hS21 (fun _ => ?_)
      clear hK K
      refine wpAnyH_take (i := 12) (v := ?_) rfl (by kernel_rfl) (by kernel_rfl) (by kernel_rfl) (fun _ _ _ h => h) (Or.inl ⟨by rfl, ?_⟩) hS21 ?_
      rotate_left
      · (intro W' hS'; (try dsimp only at hS'); go_simp; with_reducible rfl)
      try simp only [Act.put, List.setIfInBounds_toArray, List.set_cons_zero, List.set_cons_succ]
      refine wpAnyH_ready (rs := [13]) (by kernel_rfl) (by simp) ?_
      refine AllReadyH.cons rfl (fun K hK => ?_) AllReadyH.nil
      go_simp
      refine hK.out _ _ hS22 (fun _ => ?_)
      clear hK K
      refine wpAnyH_done (by kernel_rfl) ?_ _
      clear cp7 cp8 fp7 fp8 hS10 hS20 hS21 hS22
      obtain ⟨V, hV⟩ : ∃ V, V = ((W9.setCell ⟨p, 7, none⟩ (.int .i64 ((psAll rows).es.length : Int))).setCell ⟨p, 8, none⟩ (.int .i64 ((sgAll rows2).2.length : Int))).drew := ⟨_, rfl⟩
      have hend := parts_end HH2.out Hm.out.2.2.2.1 hD2 Hm.out.2.2.2.2.1 hsz rfl HW9.out.2.1 HW9.out.2.2.1 HW9.out.2.2.2.1 HW9.out.2.2.2.2.1 HW9.out.1 hV
      rw [hsz, hs2'] at hend
      rw [← hV]
      refine ⟨by simp, .inl ⟨_, _, rfl, run_takeDeferred hend.1, ?_⟩⟩
      refine ⟨by simp, .inl ⟨_, _, rfl, run_takeDeferred (hend.2 _).1, ?_⟩⟩
      exact ⟨_, results_none rfl _ _ _, ⟨_, rfl⟩, (hend.2 _).2 _⟩
end Go.Proofs.YtejikiebhjiocaaDoor
