/- ucd.Build: the tables. -/
import Derived.Test.YtejikiebhjiocaaDoorDv
set_option linter.unusedVariables false
set_option linter.unusedSimpArgs false
namespace Go.Proofs.YtejikiebhjiocaaDoor
open Go.RowKit

def mkD (cE : List (Int × Int)) (pE : List (Int × Int × Int × Bool)) (sE : List (Int × Int)) : UcdD :=
  { cls := fun x => lastV cE (x : Int), pair := fun x => lastV (idxE 0 pE) (x : Int), single := fun x => lastV sE (x : Int), pairs := pE.map (fun e => (e.2.1, e.2.2.1)), joined := joinedOf (jlE pE), seconds := secondsOf (slE pE) }
def tabD : UcdD := mkD clsEs prEs sgEs

theorem bound_of_all {l : List Int} {a b : Int} (h : l.all (fun x => decide (a ≤ x) && decide (x ≤ b)) = true) : ∀ x ∈ l, a ≤ x ∧ x ≤ b := fun x hx => by
  have := List.all_eq_true.1 h x hx
  simpa using this
theorem clsEs_val : (clsEs.map (·.2)).all (fun x => decide (0 ≤ x) && decide (x ≤ 254)) = true := by kernel_rfl
theorem clsLit_val : (clsLit.map (·.2.2)).all (fun x => decide (0 ≤ x) && decide (x ≤ 254)) = true := by kernel_rfl
theorem sgEs_val : (sgEs.map (·.2)).all (fun x => decide (0 ≤ x) && decide (x ≤ 1114111)) = true := by kernel_rfl
theorem sgLit_val : (sgLit.map (·.2.1)).all (fun x => decide (0 ≤ x) && decide (x ≤ 1114111)) = true := by kernel_rfl
theorem prLit_val1 : (prLit.map (·.1.2.1)).all (fun x => decide (0 ≤ x) && decide (x ≤ 1114111)) = true := by kernel_rfl
theorem prLit_val2 : (prLit.map (·.1.2.2)).all (fun x => decide (0 ≤ x) && decide (x ≤ 1114111)) = true := by kernel_rfl
theorem prEs_val : ((idxE 0 prEs).map (·.2)).all (fun x => decide (0 ≤ x) && decide (x ≤ 1026)) = true := by kernel_rfl

theorem ascii_of {s : List UInt8} (h : s.all (fun b => Nat.ble b.toNat 127) = true) : ∀ b ∈ s, b.toNat < 128 := fun b hb => by
  have := Nat.le_of_ble_eq_true (List.all_eq_true.1 h b hb)
  omega

theorem clsEs_rng : ∀ e ∈ clsEs, -9223372036854775808 ≤ e.2 ∧ e.2 ≤ 9223372036854775807 := fun e he => by
  have := bound_of_all clsEs_val e.2 (List.mem_map.2 ⟨e, he, rfl⟩); omega
theorem clsLit_rng : ∀ r ∈ clsLit, 0 ≤ r.2.2 ∧ r.2.2 ≤ 1000 := fun r hr => by
  have := bound_of_all clsLit_val r.2.2 (List.mem_map.2 ⟨r, hr, rfl⟩); omega
theorem prLit_rng : ∀ r ∈ prLit, InI32 r.1.2.1 ∧ InI32 r.1.2.2 := fun r hr => by
  have h1 := bound_of_all prLit_val1 r.1.2.1 (List.mem_map.2 ⟨r, hr, rfl⟩)
  have h2 := bound_of_all prLit_val2 r.1.2.2 (List.mem_map.2 ⟨r, hr, rfl⟩)
  unfold InI32; omega
theorem sgLit_rng : ∀ r ∈ sgLit, InI32 r.2.1 := fun r hr => by
  have h1 := bound_of_all sgLit_val r.2.1 (List.mem_map.2 ⟨r, hr, rfl⟩)
  unfold InI32; omega
theorem prEs_rng : ∀ e ∈ (psAll prLit).es, -9223372036854775808 ≤ e.2 ∧ e.2 ≤ 9223372036854775807 := by
  have hE := psAll_E prLit
  rw [prLit_es] at hE
  rw [hE.2.1]
  intro e he
  have := bound_of_all prEs_val e.2 (List.mem_map.2 ⟨e, he, rfl⟩); omega
theorem sgEs_rng : ∀ e ∈ (sgAll sgLit).2, -9223372036854775808 ≤ e.2 ∧ e.2 ≤ 9223372036854775807 := by
  rw [sgLit_es]
  intro e he
  have := bound_of_all sgEs_val e.2 (List.mem_map.2 ⟨e, he, rfl⟩); omega
theorem clsAll_rng : ∀ e ∈ (clsAll clsLit).2, -9223372036854775808 ≤ e.2 ∧ e.2 ≤ 9223372036854775807 := by rw [clsLit_es]; exact clsEs_rng
theorem clsAll_len : (clsAll clsLit).2.length ≤ 100000 := by rw [clsLit_es]; exact of_decide_eq_true (by kernel_rfl)
theorem prLit_le : prLit.length ≤ 100000 := of_decide_eq_true (by kernel_rfl)
theorem sgLit_le : sgLit.length ≤ 100000 := of_decide_eq_true (by kernel_rfl)
theorem clsTxt_is : classesBA = txt clsTxt := by unfold clsTxt; rw [txt_data]
theorem prTxt_is : pairsBA = txt prTxt := by unfold prTxt; rw [txt_data]
theorem sgTxt_is : singlesBA = txt sgTxt := by unfold sgTxt; rw [txt_data]

theorem classesD (w : World) (p : Nat) (cs : Array Value) (hp : w.heap[p]? = some (.cells cs 47 (0, 0))) (hcs : cs.size = 10) (hsp : SpaceIs w) :
    Calls Tryd.prog 25 #[.pointer (some ⟨p, 0, none⟩)] w fun e w' => (∃ v, e = .returned v) ∧ ButP p w w' ∧
      ∃ pc, w.heap.size ≤ pc ∧ TableIs w' pc (fun x => lastV clsEs (x : Int)) ∧ ∃ c6, w'.heap[p]? = some (.cells ((cs.setIfInBounds 0 (.pointer (some ⟨pc, 0, none⟩))).setIfInBounds 6 c6) 47 (0, 0)) := by
  have h := classes_calls w p cs clsTxt clsLit clsTxt_rows.symm hp hcs hsp clsTxt_le (ascii_of clsTxt_ascii) clsAll_len clsAll_rng clsLit_rng clsTxt_is
  rw [clsLit_es] at h
  exact callsIn_wide.1 h
theorem partsD (w : World) (p mj ms : Nat) (cs0 : Array Value) (hp : w.heap[p]? = some (.cells cs0 47 (0, 0))) (hcs : cs0.size = 10) (h3 : cs0[3]? = some (.slice none 0 0)) (h4 : cs0[4]? = some (.map (some mj))) (h5 : cs0[5]? = some (.map (some ms))) (h9 : cs0[9]? = some (.int .i64 0))
    (hmj : IsMap Tryd.prog 77 w mj (fun _ => none)) (hms : IsMap Tryd.prog 21 w ms (fun _ => none)) (hpj : p ≠ mj) (hps : p ≠ ms) (hjs : mj ≠ ms) (hsp : SpaceIs w) :
    Calls Tryd.prog 26 #[.pointer (some ⟨p, 0, none⟩)] w fun e w' => (∃ v, e = .returned v) ∧ PartsPost w w' p mj ms cs0 (psAll prLit) sgEs := by
  have h := parts_calls w p mj ms cs0 prTxt sgTxt prLit sgLit prTxt_rows.symm sgTxt_rows.symm hp hcs h3 h4 h5 h9 hmj hms hpj hps hjs hsp prTxt_le (ascii_of prTxt_ascii) sgTxt_le (ascii_of sgTxt_ascii)
    prLit_le sgLit_le prLit_rng sgLit_rng prEs_rng sgEs_rng prTxt_is sgTxt_is
  rw [sgLit_es] at h
  exact callsIn_wide.1 h

theorem SpaceIs.butP {w W : World} {p : Nat} {cs : Array Value} {t : TypeId} (h : SpaceIs w) (hp : w.heap[p]? = some (.cells cs t (0, 0))) (hcs : cs.size = 10) (hc : ButP p w W) : SpaceIs W := by
  unfold SpaceIs Lib.TabIs World.var? at *
  cases hg : (Tryd.prog.globalNamed "strings.asciiSpace") with
  | none => rw [hg] at h; simp at h
  | some g =>
    rw [hg] at h
    simp only [Option.bind_some] at h ⊢
    cases hb : w.heap[g]? with
    | none => rw [hb] at h; simp at h
    | some o =>
      have hgp : g ≠ p := fun e => by
        subst e; rw [hp] at h
        simp only [Option.some.injEq] at h
        have := congrArg Array.size h
        rw [hcs] at this
        simp [Lib.asciiSpaceTab] at this
      rw [hc.block g (Array.getElem?_eq_some_iff.1 hb).1 hgp]; exact h

def BuildPost (w : World) (e : Ending) (w' : World) : Prop := ∃ p, e = .returned (.pointer (some ⟨p, 0, none⟩)) ∧ Below w.heap.size w w' ∧ UcdIs w' p tabD

theorem pairs_cells {W : World} {base : Nat} {v : Value} {l : List (Int × Int)} (h : W.ownsRow base 77 2 v l.length (flatP l)) : ∃ A cap, v = .slice A l.length cap ∧
    ∀ j, (hj : j < l.length) → ∃ G, A = some ⟨G, 0, none⟩ ∧ W.cell? ⟨G, j * 2, none⟩ = some (.int .i32 l[j].1) ∧ W.cell? ⟨G, j * 2 + 1, none⟩ = some (.int .i32 l[j].2) := by
  rcases h.2 with ⟨k1, k2⟩ | ⟨G, cap, cur, k1, k2, k3, k4, k5, k6, k7⟩
  · exact ⟨none, 0, by rw [k1, k2], fun j hj => absurd hj (by omega)⟩
  · refine ⟨_, _, k1, fun j hj => ⟨G, rfl, ?_, ?_⟩⟩
    · rw [cell_of_row _ _ _ _ _ _ k3]
      have := (flatP_at l j hj).1
      rw [← k7, List.getElem?_take_of_lt (by omega)] at this
      simpa using this
    · rw [cell_of_row _ _ _ _ _ _ k3]
      have := (flatP_at l j hj).2
      rw [← k7, List.getElem?_take_of_lt (by omega)] at this
      simpa using this

theorem build_end {w W1 w2 w3 : World} {c6 : Value} {cE : List (Int × Int)} {pE : List (Int × Int × Int × Bool)} {sE : List (Int × Int)} {st : PSt} (hE : st.pairs = pE.map (fun e => (e.2.1, e.2.2.1)) ∧ st.es = idxE 0 pE ∧ st.jl = jlE pE ∧ st.sl = slE pE) {pc : Nat} {cs : Array Value} (hW1 : Below w.heap.size w W1) (hs1 : W1.heap.size = w.heap.size + 1 + 1 + 1) (hcs : cs.size = 10) (hb : ButP (w.heap.size + 1 + 1) W1 w2) (hle : W1.heap.size ≤ pc) (ht : TableIs w2 pc (fun x => lastV cE (x : Int)))
    (hp2 : w2.heap[w.heap.size + 1 + 1]? = some (.cells ((cs.setIfInBounds 0 (.pointer (some ⟨pc, 0, none⟩))).setIfInBounds 6 c6) 47 (0, 0)))
    (hm1 : IsMap Tryd.prog 77 w2 w.heap.size (fun _ => none)) (hm2 : IsMap Tryd.prog 21 w2 (w.heap.size + 1) (fun _ => none))
    (h : PartsPost w2 w3 (w.heap.size + 1 + 1) w.heap.size (w.heap.size + 1) ((cs.setIfInBounds 0 (.pointer (some ⟨pc, 0, none⟩))).setIfInBounds 6 c6) st sE) :
    Below w.heap.size w w3 ∧ UcdIs w3 (w.heap.size + 1 + 1) (mkD cE pE sE) := by
  obtain ⟨hc, pp, ps, cs3, vp, q1, q2, q3, q4, q5, q6, q7, q8, q9, q10, q11, q12, q13⟩ := h
  refine ⟨⟨hc.os.trans (hb.os.trans hW1.os), hc.tape.trans (hb.tape.trans hW1.tape), hc.output.trans (hb.output.trans hW1.output), ?_, fun k hk => ?_⟩, ⟨?_⟩⟩
  · have := hc.size; have := hb.size; omega
  · exact (hc.block k (by have := hb.size; omega) (by omega) (by omega) (by omega)).trans ((hb.block k (by omega) (by omega)).trans (hW1.block k hk))
  · rw [hE.1] at q11
    rw [hE.2.1] at q9
    rw [hE.2.2.1] at q12
    rw [hE.2.2.2] at q13
    obtain ⟨A, cap, rfl, hpc⟩ := pairs_cells q11
    refine ⟨cs3, pc, pp, ps, A, cap, w.heap.size, w.heap.size + 1, SjOf (jlE pE), SsOf (slE pE), q1, ?_, q4, q5, q6, q7, q8, ?_, q9, q10, hpc, q12, SjOf_at _, q13, SsOf_at _⟩
    · rw [q3]
      simp only [Array.getElem?_setIfInBounds, Nat.reduceEqDiff, if_false, if_true, Array.size_setIfInBounds]
      rw [if_pos (by omega)]
    · refine ht.of_other fun k c t hk htt => ?_
      have hkl := (Array.getElem?_eq_some_iff.1 hk).1
      obtain ⟨_, _, hm1', _⟩ := hm1
      obtain ⟨_, _, hm2', _⟩ := hm2
      refine (hc.block k hkl (fun e => ?_) (fun e => ?_) (fun e => ?_)).trans hk
      · subst e; rw [hp2] at hk; cases hk; rcases htt with h | h <;> cases h
      · subst e; rw [hm1'] at hk; cases hk
      · subst e; rw [hm2'] at hk; cases hk

set_option maxRecDepth 100000 in
set_option maxHeartbeats 2000000 in
theorem build_calls (w : World) (hsp : SpaceIs w) : Calls Tryd.prog 8 #[] w (BuildPost w) := by
  have hmm := @run_makeMap Tryd.prog
  go_enter Tryd.func8, Tryd.ntmps8
  go_wp2_with fail
  clear hmm
  obtain ⟨cs, hcs⟩ : ∃ cs : Array Value, cs = #[Value.pointer none, Value.pointer none, Value.pointer none, Value.slice none 0 0, Value.map (some w.heap.size), Value.map (some (w.heap.size + 1)), Value.int IntKind.i64 0, Value.int IntKind.i64 0, Value.int IntKind.i64 0, Value.int IntKind.i64 0] := ⟨_, rfl⟩
  obtain ⟨W1, hW1⟩ : ∃ W1, W1 = ((w.alloc (.map #[] 0)).alloc (.map #[] 0)).alloc (.cells cs 47) := ⟨_, rfl⟩
  have hB1 : Below w.heap.size w W1 := by rw [hW1]; exact (((Below.refl _ _).alloc (Nat.le_refl _) _).alloc (by simp) _).alloc (by simp; omega) _
  have hs1 : W1.heap.size = w.heap.size + 1 + 1 + 1 := by rw [hW1]; simp
  have hp1 : W1.heap[w.heap.size + 1 + 1]? = some (.cells cs 47 (0, 0)) := by rw [hW1]; exact alloc_at (by simp)
  have m1 : IsMap Tryd.prog 77 W1 w.heap.size (fun _ => none) := by
    rw [hW1]
    exact ((IsMap.new _ _ w).of_heap (Below.heap_alloc _ _ _ (by simp))).of_heap (Below.heap_alloc _ _ _ (by simp; omega))
  have m2 : IsMap Tryd.prog 21 W1 (w.heap.size + 1) (fun _ => none) := by
    rw [hW1]
    have := IsMap.new Tryd.prog 21 (w.alloc (.map #[] 0))
    rw [show (w.alloc (.map #[] 0)).heap.size = w.heap.size + 1 by simp] at this
    exact this.of_heap (Below.heap_alloc _ _ _ (by simp))
  have hc10 : cs.size = 10 := by rw [hcs]; rfl
  have c3 : cs[3]? = some (.slice none 0 0) := by rw [hcs]; rfl
  have c4 : cs[4]? = some (.map (some w.heap.size)) := by rw [hcs]; rfl
  have c5 : cs[5]? = some (.map (some (w.heap.size + 1))) := by rw [hcs]; rfl
  have c9 : cs[9]? = some (.int .i64 0) := by rw [hcs]; rfl
  rw [← hcs, ← hW1]
  have Hcs := Lib.hid hcs
  have HW1 := Lib.hid hW1
  clear hcs hW1
  refine (classesD W1 (w.heap.size + 1 + 1) cs hp1 hc10 (hsp.below hB1 (Nat.le_refl _))).mono ?_
  rintro e w2 ⟨⟨v, rfl⟩, hb, pc, hle, ht, c6, hp2⟩
  have HH := Lib.hid (And.intro hp1 (And.intro m1 (And.intro m2 (And.intro c3 (And.intro c4 (And.intro c5 (And.intro c9 (And.intro hb (And.intro hle (And.intro ht (And.intro hp2 (And.intro hsp (And.intro hB1 (And.intro hc10 hs1))))))))))))))
  clear hp1 m1 m2 c3 c4 c5 c9 hb hle ht hp2 hsp hB1 hc10 hs1
  go_wp2_with fail
  obtain ⟨hp1, m1, m2, c3, c4, c5, c9, hb, hle, ht, hp2, hsp, hB1, hc10, hs1⟩ := HH.out
  have m1' := m1.of_heap (hb.block w.heap.size (by omega) (by omega))
  have m2' := m2.of_heap (hb.block (w.heap.size + 1) (by omega) (by omega))
  refine (partsD w2 (w.heap.size + 1 + 1) w.heap.size (w.heap.size + 1) _ hp2 (by simpa using hc10) ?_ ?_ ?_ ?_ m1' m2' (by omega) (by omega) (by omega) ((hsp.below hB1 (Nat.le_refl _)).butP hp1 hc10 hb)).mono ?_
  · simp only [Array.getElem?_setIfInBounds, Nat.reduceEqDiff, if_false]; exact c3
  · simp only [Array.getElem?_setIfInBounds, Nat.reduceEqDiff, if_false]; exact c4
  · simp only [Array.getElem?_setIfInBounds, Nat.reduceEqDiff, if_false]; exact c5
  · simp only [Array.getElem?_setIfInBounds, Nat.reduceEqDiff, if_false]; exact c9
  rintro e w3 ⟨⟨v, rfl⟩, h⟩
  have hE := psAll_E prLit
  rw [prLit_es] at hE
  have HE := Lib.hid (build_end hE hB1 hs1 hc10 hb hle ht hp2 m1' m2' h)
  clear hp1 m1 m2 c3 c4 c5 c9 hb hle ht hp2 hsp hB1 hc10 hs1 m1' m2' h hE
  go_wp2_with fail
  go_ret
  exact ⟨_, rfl, HE.out⟩
end Go.Proofs.YtejikiebhjiocaaDoor
