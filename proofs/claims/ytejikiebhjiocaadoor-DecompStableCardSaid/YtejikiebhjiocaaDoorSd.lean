/- stage.Build's second loop: the table as it stands. -/
import Derived.Test.YtejikiebhjiocaaDoorSb
import Derived.Test.YtejikiebhjiocaaDoorMp
import Derived.Deep.AppendLies
set_option linter.unusedVariables false
set_option linter.unusedSimpArgs false
namespace Go.Proofs.YtejikiebhjiocaaDoor
open Go.RowKit

def gOf : Option (Nat × (Nat → Int)) → Nat → Int
  | none => fun _ => 0
  | some (_, g) => g
theorem valAt_gOf (f : Nat → Option (Nat × (Nat → Int))) (x : Nat) : valAt f x = gOf (f (x / 256)) (x % 256) := by
  unfold valAt gOf; split <;> rename_i h <;> rw [h]

/-- Two blocks alike. -/
def Alike256 (g h : Nat → Int) : Prop := ∀ j, j < 256 → g j = h j
theorem blockOf_inj {g h : Nat → Int} (e : blockOf g = blockOf h) : Alike256 g h := fun j hj => by
  have := congrArg (·[j]?) e
  simp only [blockOf_at _ _ hj] at this
  simpa using this
theorem blockOf_congr {g h : Nat → Int} (e : Alike256 g h) : blockOf g = blockOf h := by
  unfold blockOf
  congr 1
  exact List.map_congr_left fun j hj => by rw [e j (by simpa using hj)]

/-- The rows of the blocks, one behind the other. -/
def flatB (bs : List (Nat → Int)) : List Value := bs.flatMap fun g => (blockOf g).toList
theorem flatB_len (bs : List (Nat → Int)) : (flatB bs).length = bs.length * 256 := by
  induction bs with
  | nil => rfl
  | cons g bs ih =>
    have : (flatB (g :: bs)).length = (blockOf g).toList.length + (flatB bs).length := by simp [flatB]
    rw [this, ih]; simp [blockOf_size]; omega
theorem flatB_snoc (bs : List (Nat → Int)) (g : Nat → Int) : flatB (bs ++ [g]) = flatB bs ++ (blockOf g).toList := by simp [flatB]
theorem flatB_at : ∀ (bs : List (Nat → Int)) (i j : Nat) (h : i < bs.length), j < 256 → (flatB bs)[i * 256 + j]? = some (.int .i64 (bs[i] j))
  | g :: bs, 0, j, _, hj => by
    have : (flatB (g :: bs)) = (blockOf g).toList ++ flatB bs := by simp [flatB]
    rw [this, List.getElem?_append_left (by simp [blockOf_size]; omega)]
    simp [blockOf_at g j hj]
  | g :: bs, i + 1, j, h, hj => by
    have : (flatB (g :: bs)) = (blockOf g).toList ++ flatB bs := by simp [flatB]
    rw [this, List.getElem?_append_right (by simp [blockOf_size]; omega)]
    have e : (i + 1) * 256 + j - (blockOf g).toList.length = i * 256 + j := by simp [blockOf_size]; omega
    rw [e]
    simpa using flatB_at bs i j (by simpa using h) hj

/-- The table in block TB when k of its places are filled; the map of what was seen in block MB; the blocks bs, in the slice bv. -/
structure Tab2 (W : World) (TB MB base : Nat) (f : Nat → Option (Nat × (Nat → Int))) (k : Nat) (bv : Value) (bs : List (Nat → Int)) (S : Value → Option Value) : Prop where
  tab : ∃ T : Array Value, W.heap[TB]? = some (.cells T 87 (0, 0)) ∧ T.size = 4353 ∧ T[4352]? = some bv ∧ (∀ n, k ≤ n → n < 4352 → T[n]? = some (.int .i64 0)) ∧
    ∀ n, n < k → ∃ (i : Nat) (h : i < bs.length), T[n]? = some (.int .i64 (i : Int)) ∧ Alike256 bs[i] (gOf (f n))
  row : W.ownsRow base 83 256 bv bs.length (flatB bs)
  map : IsMap Tryd.prog 83 W MB S
  has : ∀ x v, S x = some v → ∃ (i : Nat) (g : Nat → Int) (h : i < bs.length), v = .int .i64 (i : Int) ∧ x = .agg (blockOf g) ∧ Alike256 bs[i] g

/-- What a step elsewhere leaves. -/
theorem Tab2.kept {W W' : World} {TB MB base k : Nat} {f : Nat → Option (Nat × (Nat → Int))} {bv : Value} {bs : List (Nat → Int)} {S : Value → Option Value} (h : Tab2 W TB MB base f k bv bs S)
    (hg : W.grownBy W' none) : Tab2 W' TB MB base f k bv bs S := by
  obtain ⟨T, h1, r⟩ := h.tab
  refine ⟨⟨T, (hg.block _ (Array.getElem?_eq_some_iff.1 h1).1 (by simp)).trans h1, r⟩, h.row.kept hg ?_, h.map.of_heap (hg.block _ h.map.lt (by simp)), h.has⟩
  cases bv.ownBlock <;> simp

/-- A place is filled. -/
theorem Tab2.fill {W : World} {TB MB base k : Nat} {f : Nat → Option (Nat × (Nat → Int))} {bv : Value} {bs : List (Nat → Int)} {S : Value → Option Value} (h : Tab2 W TB MB base f k bv bs S)
    (hk : k < 4352) (hTM : TB ≠ MB) (hTb : TB < base) (i : Nat) (hi : i < bs.length) (ha : Alike256 bs[i] (gOf (f k))) :
    Tab2 (W.setCell ⟨TB, k, none⟩ (.int .i64 (i : Int))) TB MB base f (k + 1) bv bs S := by
  obtain ⟨T, h1, h2, h3, h4, h5⟩ := h.tab
  have hrow : ∀ k', bv.ownBlock = some k' → k' ≠ TB := fun k' hk' => by have := (h.row.lt k' hk').1; omega
  refine ⟨⟨T.setIfInBounds k (.int .i64 (i : Int)), heap_setCell_same _ _ _ _ _ _ h1, by simpa using h2, ?_, fun n hn hn2 => ?_, fun n hn => ?_⟩, ?_, ?_, h.has⟩
  · rw [Array.getElem?_setIfInBounds, if_neg (by omega)]; exact h3
  · rw [Array.getElem?_setIfInBounds, if_neg (by omega)]; exact h4 n (by omega) hn2
  · by_cases e : n = k
    · subst e; exact ⟨i, hi, by rw [Array.getElem?_setIfInBounds, if_pos rfl, if_pos (by omega)], ha⟩
    · obtain ⟨i', hi', h6, h7⟩ := h5 n (by omega)
      exact ⟨i', hi', by rw [Array.getElem?_setIfInBounds, if_neg (by omega)]; exact h6, h7⟩
  · refine h.row.kept (row := some TB) ?_ ?_
    · exact ⟨rfl, rfl, rfl, by simp [World.setCell], fun k' _ hne => heap_setCell_other _ _ _ _ (by simpa using fun e => hne (by rw [e]))⟩
    · cases hb : bv.ownBlock with
      | none => left; rfl
      | some k' => right; simp; exact hrow k' hb
  · exact h.map.of_heap (heap_setCell_other _ _ _ _ (Ne.symm hTM))

/-- The table's slice is stored anew: a block more. -/
theorem Tab2.grow {W W' : World} {TB MB base k : Nat} {f : Nat → Option (Nat × (Nat → Int))} {bv bv' : Value} {bs : List (Nat → Int)} {S : Value → Option Value} (h : Tab2 W TB MB base f k bv bs S)
    (hk : k ≤ 4352) (hTM : TB ≠ MB) (hTb : TB < base) (hMb : MB < base) (g : Nat → Int) (hg : W.grownBy W' bv.ownBlock) (hrow : W'.ownsRow base 83 256 bv' (bs ++ [g]).length (flatB (bs ++ [g]))) :
    Tab2 (W'.setCell ⟨TB, 4352, none⟩ bv') TB MB base f k bv' (bs ++ [g]) S := by
  obtain ⟨T, h1, h2, h3, h4, h5⟩ := h.tab
  have hlt := (Array.getElem?_eq_some_iff.1 h1).1
  have hT : W'.heap[TB]? = some (.cells T 87 (0, 0)) := (hg.block _ hlt (fun e => by have := (h.row.lt TB e.symm).1; omega)).trans h1
  have hM : W'.heap[MB]? = W.heap[MB]? := hg.block _ h.map.lt (fun e => by have := (h.row.lt MB e.symm).1; omega)
  have hadd : ∀ (i : Nat) (hi : i < bs.length), ∃ hi' : i < (bs ++ [g]).length, (bs ++ [g])[i] = bs[i] := fun i hi => ⟨by simp; omega, List.getElem_append_left hi⟩
  refine ⟨⟨T.setIfInBounds 4352 bv', heap_setCell_same _ _ _ _ _ _ hT, by simpa using h2, ?_, fun n hn hn2 => ?_, fun n hn => ?_⟩, ?_, ?_, fun x v hx => ?_⟩
  · rw [Array.getElem?_setIfInBounds, if_pos rfl, if_pos (by omega)]
  · rw [Array.getElem?_setIfInBounds, if_neg (by omega)]; exact h4 n hn hn2
  · obtain ⟨i, hi, h6, h7⟩ := h5 n hn
    obtain ⟨hi', e⟩ := hadd i hi
    exact ⟨i, hi', by rw [Array.getElem?_setIfInBounds, if_neg (by omega)]; exact h6, by rw [e]; exact h7⟩
  · refine hrow.kept (row := some TB) ?_ ?_
    · exact ⟨rfl, rfl, rfl, by simp [World.setCell], fun k' _ hne => heap_setCell_other _ _ _ _ (by simpa using fun e => hne (by rw [e]))⟩
    · cases hb : bv'.ownBlock with
      | none => left; rfl
      | some k' => right; simp; intro e; subst e; have := (hrow.lt _ hb).1; omega
  · exact (h.map.of_heap hM).of_heap (heap_setCell_other _ _ _ _ (Ne.symm hTM))
  · obtain ⟨i, g', hi, h6, h7, h8⟩ := h.has x v hx
    obtain ⟨hi', e⟩ := hadd i hi
    exact ⟨i, g', hi', h6, h7, by rw [e]; exact h8⟩

/-- The map takes what is to be seen. -/
theorem Tab2.see {W W' : World} {TB MB base k : Nat} {f : Nat → Option (Nat × (Nat → Int))} {bv : Value} {bs : List (Nat → Int)} {S : Value → Option Value} {x v : Value} (h : Tab2 W TB MB base f k bv bs S)
    (hTM : TB ≠ MB) (hMb : MB < base) (hg : W.grownBy W' (some MB)) (hmap : IsMap Tryd.prog 83 W' MB (putS S x v)) :
    (∃ T : Array Value, W'.heap[TB]? = some (.cells T 87 (0, 0)) ∧ T.size = 4353 ∧ T[4352]? = some bv ∧ (∀ n, k ≤ n → n < 4352 → T[n]? = some (.int .i64 0)) ∧
      ∀ n, n < k → ∃ (i : Nat) (h : i < bs.length), T[n]? = some (.int .i64 (i : Int)) ∧ Alike256 bs[i] (gOf (f n))) ∧ W'.ownsRow base 83 256 bv bs.length (flatB bs) := by
  obtain ⟨T, h1, r⟩ := h.tab
  refine ⟨⟨T, (hg.block _ (Array.getElem?_eq_some_iff.1 h1).1 (by simpa using hTM)).trans h1, r⟩, h.row.kept hg ?_⟩
  cases hb : bv.ownBlock with
  | none => left; rfl
  | some k' => right; simp; intro e; subst e; have := (h.row.lt _ hb).1; omega

/-- Both: a block that was not seen is seen, and comes in. -/
theorem Tab2.both {W W1 W2 : World} {TB MB base k : Nat} {f : Nat → Option (Nat × (Nat → Int))} {bv bv' : Value} {bs : List (Nat → Int)} {S : Value → Option Value} (h : Tab2 W TB MB base f k bv bs S)
    (hk : k ≤ 4352) (hTM : TB ≠ MB) (hTb : TB < base) (hMb : MB < base) (g : Nat → Int) (hg1 : W.grownBy W1 (some MB)) (hmap : IsMap Tryd.prog 83 W1 MB (putS S (.agg (blockOf g)) (.int .i64 (bs.length : Int))))
    (hg2 : W1.grownBy W2 bv.ownBlock) (hrow : W2.ownsRow base 83 256 bv' (bs ++ [g]).length (flatB (bs ++ [g]))) :
    Tab2 (W2.setCell ⟨TB, 4352, none⟩ bv') TB MB base f k bv' (bs ++ [g]) (putS S (.agg (blockOf g)) (.int .i64 (bs.length : Int))) := by
  obtain ⟨⟨T, h1, h2, h3, h4, h5⟩, hr⟩ := h.see hTM hMb hg1 hmap
  have hlt := (Array.getElem?_eq_some_iff.1 h1).1
  have hT : W2.heap[TB]? = some (.cells T 87 (0, 0)) := (hg2.block _ hlt (fun e => by have := (hr.lt TB e.symm).1; omega)).trans h1
  have hM : W2.heap[MB]? = W1.heap[MB]? := hg2.block _ hmap.lt (fun e => by have := (hr.lt MB e.symm).1; omega)
  have hadd : ∀ (i : Nat) (hi : i < bs.length), ∃ hi' : i < (bs ++ [g]).length, (bs ++ [g])[i] = bs[i] := fun i hi => ⟨by simp; omega, List.getElem_append_left hi⟩
  refine ⟨⟨T.setIfInBounds 4352 bv', heap_setCell_same _ _ _ _ _ _ hT, by simpa using h2, ?_, fun n hn hn2 => ?_, fun n hn => ?_⟩, ?_, ?_, fun x v hx => ?_⟩
  · rw [Array.getElem?_setIfInBounds, if_pos rfl, if_pos (by omega)]
  · rw [Array.getElem?_setIfInBounds, if_neg (by omega)]; exact h4 n hn hn2
  · obtain ⟨i, hi, h6, h7⟩ := h5 n hn
    obtain ⟨hi', e⟩ := hadd i hi
    exact ⟨i, hi', by rw [Array.getElem?_setIfInBounds, if_neg (by omega)]; exact h6, by rw [e]; exact h7⟩
  · refine hrow.kept (row := some TB) ?_ ?_
    · exact ⟨rfl, rfl, rfl, by simp [World.setCell], fun k' _ hne => heap_setCell_other _ _ _ _ (by simpa using fun e => hne (by rw [e]))⟩
    · cases hb : bv'.ownBlock with
      | none => left; rfl
      | some k' => right; simp; intro e; subst e; have := (hrow.lt _ hb).1; omega
  · exact (hmap.of_heap hM).of_heap (heap_setCell_other _ _ _ _ (Ne.symm hTM))
  · by_cases hxe : x = .agg (blockOf g)
    · subst hxe
      rw [putS_same] at hx; cases hx
      exact ⟨bs.length, g, by simp, rfl, rfl, fun j _ => by simp⟩
    · rw [putS_other _ _ hxe] at hx
      obtain ⟨i, g', hi, h6, h7, h8⟩ := h.has x v hx
      obtain ⟨hi', e⟩ := hadd i hi
      exact ⟨i, g', hi', h6, h7, by rw [e]; exact h8⟩

/-! The blocks as keys. -/
def InI64 (g : Nat → Int) : Prop := ∀ j, j < 256 → -9223372036854775808 ≤ g j ∧ g j ≤ 9223372036854775807
set_option maxRecDepth 100000
theorem tabLaid : laidOutB Tryd.prog = true := by kernel_rfl
theorem blockDeep : Tryd.prog.keyTypeAt 2 83 = true := by kernel_rfl
theorem blockWide : (match Tryd.prog.underlying 83 with | some (.array _ _) | some (.struct _) => true | _ => false) = true := by rw [Tryd.underlying83]
theorem blockRow : (83 : TypeId) < Tryd.prog.types.size := of_decide_eq_true (by kernel_rfl)
theorem blockKeyed : Maps.Keyed Tryd.prog 83 := Maps.Keyed.of_law (deep_law_laid tabLaid (m := 2) (by omega) blockRow blockDeep blockWide)
theorem blockKey (g : Nat → Int) (hg : InI64 g) : ∃ l, keyOf Tryd.prog 83 (.agg (blockOf g)) = some l := by
  have h := keyOf_ints (P := Tryd.prog) (t := 83) (e := 3) (n := 256) (q := .i64) (m := Tryd.prog.types.size - 1) Tryd.underlying83 Tryd.underlying3 (by kernel_rfl) (by kernel_rfl) (by kernel_rfl) (by kernel_rfl)
    ((List.range 256).map g) (by simp) (fun x hx => by
      obtain ⟨j, hj, rfl⟩ := List.mem_map.1 hx
      have := hg j (by simpa using hj)
      simp [Lit.wf, IntKind.min, IntKind.max, IntKind.signed, IntKind.bits]; omega)
  rw [List.map_map] at h
  exact ⟨_, h⟩
theorem eql_blocks (g h : Nat → Int) (hg : InI64 g) (hh : InI64 h) (w : World) : ∃ r : Bool, (Op.equalIn 10000 83 (.agg (blockOf g)) (.agg (blockOf h))).run Tryd.prog w = .ok r w ∧ (r = true ↔ Alike256 g h) := by
  obtain ⟨l1, h1⟩ := blockKey g hg
  obtain ⟨l2, h2⟩ := blockKey h hh
  obtain ⟨r, hr, hi⟩ := run_equal_deep (P := Tryd.prog) w (m := 2) (by omega) blockDeep blockWide h1 h2
  refine ⟨r, by simpa [Op.equal, Op.maxDepth] using hr, ?_⟩
  rw [hi]
  constructor
  · intro e; subst e
    have := blockKeyed.inj h1 h2
    exact blockOf_inj (by simpa using this)
  · intro e
    rw [blockOf_congr e] at h1
    rw [h1] at h2
    exact Option.some.inj h2

theorem zeroTab : Tryd.zeroCells87 = (Array.replicate 4352 (Value.int .i64 0)).push (.slice none 0 0) := by kernel_rfl

/-- As it is at first. -/
theorem Tab2.start (w : World) (f : Nat → Option (Nat × (Nat → Int))) :
    Tab2 ((w.alloc (.cells Tryd.zeroCells87 87)).alloc (.map #[] 0)) w.heap.size (w.heap.size + 1) (w.heap.size + 2) f 0 (.slice none 0 0) [] (fun _ => none) := by
  have hm := IsMap.new Tryd.prog 83 (w.alloc (.cells Tryd.zeroCells87 87))
  rw [show (w.alloc (.cells Tryd.zeroCells87 87)).heap.size = w.heap.size + 1 by simp] at hm
  refine ⟨⟨Tryd.zeroCells87, (Below.heap_alloc _ _ _ (by simp)).trans (heap_alloc_new _ _), by rw [zeroTab]; simp, by rw [zeroTab, Array.getElem?_push, if_pos (by simp)], fun n _ hn => ?_, fun n hn => absurd hn (Nat.not_lt_zero _)⟩, World.ownsRow_nil _ _ _ _, hm, fun _ _ h => by cases h⟩
  rw [zeroTab, Array.getElem?_push, if_neg (by simp; omega)]
  simp [hn]
end Go.Proofs.YtejikiebhjiocaaDoor
