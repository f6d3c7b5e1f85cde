/- Two operations on great values, each as one equation. -/
import Derived.Test.YtejikiebhjiocaaDoorSd
import Derived.Great.BuildSlice
import Derived.Deep.MidRow
import Derived.Maps.AppendAt
set_option linter.unusedVariables false
set_option linter.unusedSimpArgs false
namespace Go.Proofs.YtejikiebhjiocaaDoor
open Go.RowKit

theorem run_buildBlock (g : Nat → Int) (W : World) : (Instr.buildSlice 85 1 #[(0, .agg (blockOf g))]).run Tryd.prog W = .ok (.slice (some ⟨W.heap.size, 0, none⟩) 1 1) (W.alloc (.cells (blockOf g) 83)) := by
  have hs : (Tryd.prog.info? 83).map (·.size) = some 256 := by kernel_rfl
  have hz : ((Tryd.prog.info? 83).bind (·.zero)).isSome = true := by kernel_rfl
  cases hie : Tryd.prog.info? 83 with
  | none => rw [hie] at hs; cases hs
  | some ie =>
    rw [hie] at hs hz
    simp only [Option.map_some, Option.some.injEq, Option.bind_some] at hs hz
    obtain ⟨z, hzz⟩ := Option.isSome_iff_exists.1 hz
    refine Go.run_buildSlice W 85 83 1 _ (blockOf g) ie z Tryd.underlying85 hie hzz (by rw [hs]; omega) (by rw [hs]; omega) ?_
    rw [hs]
    have := Go.Great.fill_whole (s := 256) (by omega) [.agg (blockOf g)] ((Array.range (1 * 256)).map (z.cells[· % z.cells.size]!)) (by intro v hv; simp at hv; subst hv; exact blockOf_size g) (by simp)
    simpa [Value.cells] using this

theorem run_indexOwn {A : Array Value} (hA : A.size = 4352) {n : Nat} (hn : n < 4352) {o : Option (Nat × (Nat → Int))} (h : A[n]? = some (ptrOf o)) (W : World) :
    (Instr.index 109 (.agg A) (.int .i64 (n : Int))).run Tryd.prog W = .ok (ptrOf o) W := by
  have hu := Tryd.underlying109
  have hs : (Tryd.prog.info? 108).map (·.size) = some 1 := by kernel_rfl
  have h1 : (0 : Int) ≤ (n : Int) ∧ (n : Int) < (4352 : Nat) := by omega
  simp [Instr.index, run_underlying hu, asIntOf, h1, go_sem]
  simp [hn, h]
/-! The three as names that a walk's simp does not lay open. -/
@[irreducible] noncomputable def rdBlock (a : Addr) : Sem Value := loadVar 83 a
@[irreducible] noncomputable def rdOwn (a : Addr) : Sem Value := loadVar 109 a
@[irreducible] noncomputable def mkBlocks (ps : Array (Nat × Value)) : Sem Value := Instr.buildSlice 85 1 ps
theorem rdBlock_eq (a : Addr) : loadVar 83 a = rdBlock a := by unfold rdBlock; rfl
theorem rdOwn_eq (a : Addr) : loadVar 109 a = rdOwn a := by unfold rdOwn; rfl
theorem mkBlocks_eq (ps : Array (Nat × Value)) : Instr.buildSlice 85 1 ps = mkBlocks ps := by unfold mkBlocks; rfl
theorem rdBlock_of {w : World} {b : Nat} {g : Nat → Int} (h : w.heap[b]? = some (.cells (blockOf g) 83 (0, 0))) : (rdBlock ⟨b, 0, none⟩).run Tryd.prog w = .ok (.agg (blockOf g)) w := by
  unfold rdBlock
  exact run_loadVar_row w _ _ _ _ _ _ h Tryd.underlying83 rfl (by rw [blockOf_size]; kernel_rfl)
theorem rdOwn_of {w : World} {b : Nat} {A : Array Value} (h : w.heap[b]? = some (.cells A 109 (0, 0))) (hA : A.size = 4352) : (rdOwn ⟨b, 0, none⟩).run Tryd.prog w = .ok (.agg A) w := by
  unfold rdOwn
  exact run_loadVar_row w _ _ _ _ _ _ h Tryd.underlying109 rfl (by rw [hA]; kernel_rfl)
theorem mkBlocks_of (g : Nat → Int) (W : World) : (mkBlocks #[(0, .agg (blockOf g))]).run Tryd.prog W = .ok (.slice (some ⟨W.heap.size, 0, none⟩) 1 1) (W.alloc (.cells (blockOf g) 83)) := by
  unfold mkBlocks
  exact run_buildBlock g W

/-- What the appends ask of the block's type. -/
theorem blockInfo : ∃ i z, Tryd.prog.info? 83 = some i ∧ i.zero = some z ∧ i.size = 256 ∧ i.bytes = 2048 ∧ z.cells.size = 256 := by
  have hs : (Tryd.prog.info? 83).map (·.size) = some 256 := by kernel_rfl
  have hb : (Tryd.prog.info? 83).map (·.bytes) = some 2048 := by kernel_rfl
  have hz : ((Tryd.prog.info? 83).bind (·.zero)).map (·.cells.size) = some 256 := by kernel_rfl
  cases hie : Tryd.prog.info? 83 with
  | none => rw [hie] at hs; cases hs
  | some ie =>
    rw [hie] at hs hz hb
    simp only [Option.map_some, Option.some.injEq, Option.bind_some] at hs hz hb
    cases hzz : ie.zero with
    | none => rw [hzz] at hz; cases hz
    | some z => rw [hzz] at hz; exact ⟨ie, z, rfl, hzz, hs, hb, by simpa using hz⟩

/-- What is known behind the append of a block. -/
structure AppB (W1 W' : World) (base : Nat) (bs : List (Nat → Int)) (g : Nat → Int) (v v' : Value) : Prop where
  own : W'.ownsRow base 83 256 v' (bs ++ [g]).length (flatB (bs ++ [g]))
  grow : W1.grownBy W' v.ownBlock
  size : W1.heap.size ≤ W'.heap.size

theorem blockOf_one (g : Nat → Int) : ∀ u ∈ (blockOf g).toList, u.oneCell' = true := by
  intro u hu
  simp [blockOf] at hu
  obtain ⟨j, _, rfl⟩ := hu
  rfl

theorem ownsRow_alloc {w : World} {base : Nat} {e : TypeId} {size : Nat} {v : Value} {n : Nat} {xs : List Value} (h : w.ownsRow base e size v n xs) (o : Obj) : (w.alloc o).ownsRow base e size v n xs := by
  refine ⟨h.1, h.2.imp id ?_⟩
  rintro ⟨g, cap, cur, h1, h2, h3, h4⟩
  exact ⟨g, cap, cur, h1, h2, (Below.heap_alloc _ _ _ (Array.getElem?_eq_some_iff.1 h3).1).trans h3, h4⟩

theorem wp_appendBlock {o : Oper} {a : Act} {W1 : World} {K : Act → World → Prop} {Q : Exit → Act → World → Prop} (s x : Operand)
    (ho : o.op = .call { callee := .builtin .append, args := #[s, x], argTypes := #[85, 85] }) {base : Nat} {Ab : Option Addr} {bs : List (Nat → Int)} {cb : Nat}
    (hrow : W1.ownsRow base 83 256 (.slice Ab bs.length cb) bs.length (flatB bs)) (hl : bs.length < 4353) (hb : base ≤ W1.heap.size) (hs : a.eval s = .slice Ab bs.length cb) (g : Nat → Int) (hx : a.eval x = .slice (some ⟨W1.heap.size, 0, none⟩) 1 1)
    (h : ∀ g' cap w', AppB W1 w' base bs g (.slice Ab bs.length cb) (.slice (some ⟨g', 0, none⟩) (bs.length + 1) cap) → K (a.put o.dst (.slice (some ⟨g', 0, none⟩) (bs.length + 1) cap)) w') :
    o.wp Tryd.prog a (W1.alloc (.cells (blockOf g) 83)) K Q := by
  obtain ⟨i, z, hi, hz, h1, h2, h3⟩ := blockInfo
  refine wp_append_lies (P := Tryd.prog) _ s x 85 ho base 83 i z 256 2048 Tryd.underlying85 hi hz h1 h2 h3 (by omega) (.slice Ab bs.length cb) bs.length (flatB bs) hs
    (ownsRow_alloc hrow _) ⟨W1.heap.size, 0, none⟩ 1 1 (blockOf g).toList hx (by simp [blockOf_size]) ?_ (blockOf_one g) (by omega) (by unfold maxLen; omega) (by omega) (by simp; omega) _ rfl ?_
  · intro j u hu
    rw [Addr.add_mid, cell_of_row _ _ _ _ _ _ (heap_alloc_new _ _)]
    simpa using hu
  · intro g' cap w' ho' hg' _ _
    have hgr : W1.grownBy w' (Value.slice Ab bs.length cb).ownBlock := (World.grownBy_alloc W1 _ _).trans hg'
    exact h g' cap w' ⟨by rw [flatB_snoc]; simpa using ho', hgr, hgr.size⟩

theorem wpList_appendBlock {ops : Array Oper} {rest : List Oper} {o : Oper} {a : Act} {W1 : World} {Q : Exit → Act → World → Prop} (hgd : o.guard = none) (s x : Operand)
    (ho : o.op = .call { callee := .builtin .append, args := #[s, x], argTypes := #[85, 85] }) {base : Nat} {Ab : Option Addr} {bs : List (Nat → Int)} {cb : Nat}
    (hrow : W1.ownsRow base 83 256 (.slice Ab bs.length cb) bs.length (flatB bs)) (hl : bs.length < 4353) (hb : base ≤ W1.heap.size) (hs : a.eval s = .slice Ab bs.length cb) (g : Nat → Int) (hx : a.eval x = .slice (some ⟨W1.heap.size, 0, none⟩) 1 1)
    (h : ∀ g' cap w', AppB W1 w' base bs g (.slice Ab bs.length cb) (.slice (some ⟨g', 0, none⟩) (bs.length + 1) cap) → wpList Tryd.prog ops Q rest (a.put o.dst (.slice (some ⟨g', 0, none⟩) (bs.length + 1) cap)) w') :
    wpList Tryd.prog ops Q (o :: rest) a (W1.alloc (.cells (blockOf g) 83)) :=
  wpList_plain hgd fun _ hK => wp_appendBlock s x ho hrow hl hb hs g hx fun g' cap w' hh => hK _ _ (h g' cap w' hh)

theorem step_appendBlock {ops : Array Oper} {o : Oper} {a : Act} {W1 : World} {K : Act → World → Prop} {Q : Exit → Act → World → Prop} {E : Prop} (hgd : o.guard = none) (s x : Operand)
    (ho : o.op = .call { callee := .builtin .append, args := #[s, x], argTypes := #[85, 85] }) {base : Nat} {Ab : Option Addr} {bs : List (Nat → Int)} {cb : Nat}
    (hrow : W1.ownsRow base 83 256 (.slice Ab bs.length cb) bs.length (flatB bs)) (hl : bs.length < 4353) (hb : base ≤ W1.heap.size) (hs : a.eval s = .slice Ab bs.length cb) (g : Nat → Int) (hx : a.eval x = .slice (some ⟨W1.heap.size, 0, none⟩) 1 1)
    (h : ∀ g' cap w', AppB W1 w' base bs g (.slice Ab bs.length cb) (.slice (some ⟨g', 0, none⟩) (bs.length + 1) cap) → K (a.put o.dst (.slice (some ⟨g', 0, none⟩) (bs.length + 1) cap)) w') :
    if Region.wanted o (yielded ops a.tmps) = true then Oper.wp Tryd.prog o a (W1.alloc (.cells (blockOf g) 83)) K Q else E := by
  have hw : Region.wanted o (yielded ops a.tmps) = true := by simp [Region.wanted, hgd]
  rw [if_pos hw]
  exact wp_appendBlock s x ho hrow hl hb hs g hx h

/-- A table at block p: what it has at each place. -/
structure TableIs (W : World) (p : Nat) (g : Nat → Int) : Prop where
  is : ∃ (T : Array Value) (Ab : Option Addr) (bs : List (Nat → Int)) (cb base : Nat), W.heap[p]? = some (.cells T 87 (0, 0)) ∧ T[4352]? = some (.slice Ab bs.length cb) ∧ W.ownsRow base 83 256 (.slice Ab bs.length cb) bs.length (flatB bs) ∧
    ∀ n, n < 4352 → ∃ (i : Nat) (h : i < bs.length), T[n]? = some (.int .i64 (i : Int)) ∧ ∀ j, j < 256 → bs[i] j = g (n * 256 + j)

theorem TableIs.of_heap {W W' : World} {p : Nat} {g : Nat → Int} (h : TableIs W p g) (hk : ∀ k, k < W.heap.size → W'.heap[k]? = W.heap[k]?) : TableIs W' p g := by
  obtain ⟨T, Ab, bs, cb, base, h1, h2, h3, h4⟩ := h.is
  refine ⟨T, Ab, bs, cb, base, (hk _ (Array.getElem?_eq_some_iff.1 h1).1).trans h1, h2, ⟨h3.1, h3.2.imp id ?_⟩, h4⟩
  rintro ⟨g, cap, cur, k1, k2, k3, k4⟩
  exact ⟨g, cap, cur, k1, k2, (hk _ (Array.getElem?_eq_some_iff.1 k3).1).trans k3, k4⟩

theorem TableIs.below {W W' : World} {p n : Nat} {g : Nat → Int} (h : TableIs W p g) (hB : Below n W W') (hn : W.heap.size ≤ n) : TableIs W' p g := h.of_heap fun k hk => hB.block k (Nat.lt_of_lt_of_le hk hn)

theorem Tab2.tableIs {W : World} {TB MB base : Nat} {f : Nat → Option (Nat × (Nat → Int))} {Ab : Option Addr} {bs : List (Nat → Int)} {cb : Nat} {S : Value → Option Value} (h : Tab2 W TB MB base f 4352 (.slice Ab bs.length cb) bs S)
    {g : Nat → Int} (hg : ∀ x, x < 1114112 → valAt f x = g x) : TableIs W TB g := by
  obtain ⟨T, h1, h2, h3, _, h5⟩ := h.tab
  refine ⟨T, Ab, bs, cb, base, h1, h3, h.row, fun n hn => ?_⟩
  obtain ⟨i, hi, h6, h7⟩ := h5 n hn
  refine ⟨i, hi, h6, fun j hj => ?_⟩
  rw [h7 j hj, ← hg _ (by omega), valAt_gOf, show (n * 256 + j) / 256 = n by omega, show (n * 256 + j) % 256 = j by omega]
end Go.Proofs.YtejikiebhjiocaaDoor
