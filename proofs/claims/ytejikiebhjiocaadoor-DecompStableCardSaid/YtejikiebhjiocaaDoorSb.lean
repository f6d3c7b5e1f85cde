/- stage.Build's first loop: blocks of 256 places, each where an entry asks for it. -/
import Derived.Test.YtejikiebhjiocaaDoorProg
import Derived.Below
import Derived.Deep.Draws
import Derived.OwnWalk
import Derived.Tactics
import Derived.WalkKit
import Derived.KernelRfl
import Derived.RowKit3
import Derived.Deep.LoopGhost
import Derived.Deep.QuietTactic
import Derived.BigQuiet
import Derived.RegionTactic
import Derived.BigRegion
import Derived.Deep.Cut
import Derived.Lib.Hide
import Derived.Laws.Rows
import Derived.Laws.MakeOwn
import Derived.Laws.OwnMore
import Derived.RangeFuncBox
import Derived.WalkMore
import Derived.Deep.DeepCutAuto
import Derived.Outline
set_option linter.unusedVariables false
set_option linter.unusedSimpArgs false
namespace Go.Proofs.YtejikiebhjiocaaDoor
open Go.RowKit

/-- What stands at a place, by entries: the last one counts. -/
def lastV (l : List (Int × Int)) (x : Int) : Int := l.foldl (fun acc e => if e.1 = x then e.2 else acc) 0
theorem lastV_snoc (l : List (Int × Int)) (c v x : Int) : lastV (l ++ [(c, v)]) x = if c = x then v else lastV l x := by simp [lastV]

theorem lastV_range (l : List (Int × Int)) (h : ∀ e ∈ l, -9223372036854775808 ≤ e.2 ∧ e.2 ≤ 9223372036854775807) (x : Int) : -9223372036854775808 ≤ lastV l x ∧ lastV l x ≤ 9223372036854775807 := by
  have go : ∀ (l : List (Int × Int)) (a : Int), (∀ e ∈ l, -9223372036854775808 ≤ e.2 ∧ e.2 ≤ 9223372036854775807) → (-9223372036854775808 ≤ a ∧ a ≤ 9223372036854775807) →
      -9223372036854775808 ≤ l.foldl (fun acc e => if e.1 = x then e.2 else acc) a ∧ l.foldl (fun acc e => if e.1 = x then e.2 else acc) a ≤ 9223372036854775807 := by
    intro l
    induction l with
    | nil => intro a _ ha; exact ha
    | cons e l ih =>
      intro a h ha
      refine ih _ (fun e' he' => h e' (List.mem_cons_of_mem _ he')) ?_
      dsimp only
      split
      · exact h e List.mem_cons_self
      · exact ha
  exact go l 0 h (by omega)

/-- A block of 256 numbers. -/
def blockOf (g : Nat → Int) : Array Value := ((List.range 256).map fun j => Value.int .i64 (g j)).toArray
theorem blockOf_size (g : Nat → Int) : (blockOf g).size = 256 := by simp [blockOf]
theorem blockOf_at (g : Nat → Int) (j : Nat) (h : j < 256) : (blockOf g)[j]? = some (.int .i64 (g j)) := by simp [blockOf, h]
theorem blockOf_set (g : Nat → Int) (j : Nat) (v : Int) (h : j < 256) : (blockOf g).setIfInBounds j (.int .i64 v) = blockOf (fun i => if i = j then v else g i) := by
  apply Array.ext_getElem?
  intro i
  rw [Array.getElem?_setIfInBounds]
  by_cases hi : i < 256
  · rw [blockOf_at _ _ hi, blockOf_at _ _ hi, blockOf_size]
    by_cases e : j = i
    · subst e; simp [h]
    · simp [e, Ne.symm e]
  · rw [Array.getElem?_eq_none (by rw [blockOf_size]; omega), Array.getElem?_eq_none (by rw [blockOf_size]; omega), blockOf_size]
    by_cases e : j = i
    · omega
    · simp [e]
theorem zeroBlock : Tryd.zeroCells83 = blockOf (fun _ => 0) := by kernel_rfl
theorem zeroOwn : Tryd.zeroCells109 = Array.replicate 4352 (.pointer none) := by kernel_rfl
theorem zeroOwn_at (n : Nat) (h : n < 4352) : (Tryd.zeroCells109)[n]? = some (.pointer none) := by rw [zeroOwn]; simp [h]

def ptrOf : Option (Nat × (Nat → Int)) → Value
  | none => .pointer none
  | some (b, _) => .pointer (some ⟨b, 0, none⟩)

/-- The row of blocks that are there, in block O. -/
structure Own1 (W : World) (base O : Nat) (f : Nat → Option (Nat × (Nat → Int))) : Prop where
  row : ∃ A : Array Value, W.heap[O]? = some (.cells A 109 (0, 0)) ∧ A.size = 4352 ∧ ∀ n, n < 4352 → A[n]? = some (ptrOf (f n))
  blk : ∀ n b g, n < 4352 → f n = some (b, g) → base ≤ b ∧ b ≠ O ∧ W.heap[b]? = some (.cells (blockOf g) 83 (0, 0))
  inj : ∀ n m b g g', n < 4352 → m < 4352 → f n = some (b, g) → f m = some (b, g') → n = m

/-- What stands at a place. -/
def valAt (f : Nat → Option (Nat × (Nat → Int))) (x : Nat) : Int := match f (x / 256) with | none => 0 | some (_, g) => g (x % 256)

def putAt (f : Nat → Option (Nat × (Nat → Int))) (x b : Nat) (g : Nat → Int) (v : Int) : Nat → Option (Nat × (Nat → Int)) :=
  fun n => if n = x / 256 then some (b, fun j => if j = x % 256 then v else g j) else f n

theorem valAt_put (f : Nat → Option (Nat × (Nat → Int))) (x b : Nat) (g : Nat → Int) (v : Int) (hg : ∀ j, g j = match f (x / 256) with | none => 0 | some (_, g') => g' j) (y : Nat) :
    valAt (putAt f x b g v) y = if x = y then v else valAt f y := by
  unfold valAt putAt
  by_cases h : y / 256 = x / 256
  · simp only [h, if_true]
    by_cases h2 : y % 256 = x % 256
    · rw [if_pos h2, if_pos (by omega)]
    · rw [if_neg h2, if_neg (by omega), hg]
  · simp only [h, if_false]
    rw [if_neg (by omega)]

theorem Own1.below {W W' : World} {base O n : Nat} {f : Nat → Option (Nat × (Nat → Int))} (h : Own1 W base O f) (hB : Below n W W') (hn : W.heap.size ≤ n) : Own1 W' base O f := by
  have up : ∀ (k : Nat) (o : Obj), W.heap[k]? = some o → W'.heap[k]? = some o := fun k o hk => (hB.block k (Nat.lt_of_lt_of_le (Array.getElem?_eq_some_iff.1 hk).1 hn)).trans hk
  obtain ⟨A, h1, h2, h3⟩ := h.row
  exact ⟨⟨A, up _ _ h1, h2, h3⟩, fun n b g hn hf => ⟨(h.blk n b g hn hf).1, (h.blk n b g hn hf).2.1, up _ _ (h.blk n b g hn hf).2.2⟩, h.inj⟩

/-- An entry into a block that is there. -/
theorem Own1.put {W : World} {base O : Nat} {f : Nat → Option (Nat × (Nat → Int))} (h : Own1 W base O f) (x : Nat) (hx : x / 256 < 4352) {b : Nat} {g : Nat → Int} (hf : f (x / 256) = some (b, g)) (v : Int) :
    Own1 (W.setCell ⟨b, x % 256, none⟩ (.int .i64 v)) base O (putAt f x b g v) := by
  obtain ⟨A, h1, h2, h3⟩ := h.row
  obtain ⟨k1, k2, k3⟩ := h.blk _ _ _ hx hf
  have hm : x % 256 < 256 := Nat.mod_lt _ (by omega)
  refine ⟨⟨A, (heap_setCell_other W _ O _ k2.symm).trans h1, h2, fun n hn => ?_⟩, fun n b' g' hn hf' => ?_, fun n m b' g1 g2 hn hm' h5 h6 => ?_⟩
  · rw [h3 n hn]
    unfold putAt
    by_cases e : n = x / 256
    · subst e; rw [if_pos rfl, hf]; rfl
    · rw [if_neg e]
  · unfold putAt at hf'
    by_cases e : n = x / 256
    · rw [if_pos e] at hf'; cases hf'
      refine ⟨k1, k2, ?_⟩
      rw [heap_setCell_same W b _ _ _ _ k3, blockOf_set _ _ _ hm]
    · rw [if_neg e] at hf'
      obtain ⟨j1, j2, j3⟩ := h.blk _ _ _ hn hf'
      have hne : b' ≠ b := fun e2 => by subst e2; exact e (h.inj _ _ _ _ _ hn hx hf' hf)
      exact ⟨j1, j2, (heap_setCell_other W _ b' _ hne).trans j3⟩
  · unfold putAt at h5 h6
    by_cases e : n = x / 256
    · rw [if_pos e] at h5; cases h5
      by_cases e2 : m = x / 256
      · omega
      · rw [if_neg e2] at h6
        exact absurd (h.inj _ _ _ _ _ hm' hx h6 hf) e2
    · rw [if_neg e] at h5
      by_cases e2 : m = x / 256
      · rw [if_pos e2] at h6; cases h6
        exact absurd (h.inj _ _ _ _ _ hn hx h5 hf) e
      · rw [if_neg e2] at h6
        exact h.inj _ _ _ _ _ hn hm' h5 h6

/-- A new block. -/
theorem Own1.fresh {W : World} {base O : Nat} {f : Nat → Option (Nat × (Nat → Int))} (h : Own1 W base O f) (hO : O < W.heap.size) (hb : base ≤ W.heap.size) (x : Nat) (hx : x / 256 < 4352) (hf : f (x / 256) = none) :
    Own1 ((W.alloc (.cells Tryd.zeroCells83 83)).setCell ⟨O, x / 256, none⟩ (.pointer (some ⟨W.heap.size, 0, none⟩))) base O
      (fun n => if n = x / 256 then some (W.heap.size, fun _ => 0) else f n) := by
  obtain ⟨A, h1, h2, h3⟩ := h.row
  have h1' : (W.alloc (.cells Tryd.zeroCells83 83)).heap[O]? = some (.cells A 109 (0, 0)) := (Below.heap_alloc _ _ _ hO).trans h1
  refine ⟨⟨A.setIfInBounds (x / 256) (.pointer (some ⟨W.heap.size, 0, none⟩)), heap_setCell_same _ _ _ _ _ _ h1', by simpa using h2, fun n hn => ?_⟩, fun n b' g' hn hf' => ?_, fun n m b' g1 g2 hn hm' h5 h6 => ?_⟩
  · rw [Array.getElem?_setIfInBounds]
    by_cases e : n = x / 256
    · subst e; simp [h2, hx, ptrOf]
    · rw [if_neg (fun h => e h.symm), if_neg e]; exact h3 n hn
  · by_cases e : n = x / 256
    · rw [if_pos e] at hf'; cases hf'
      refine ⟨hb, by omega, ?_⟩
      rw [heap_setCell_other _ _ _ _ (by simp; omega), heap_alloc_new, zeroBlock]
    · rw [if_neg e] at hf'
      obtain ⟨j1, j2, j3⟩ := h.blk _ _ _ hn hf'
      exact ⟨j1, j2, ((heap_setCell_other _ _ _ _ (by simpa using j2)).trans (Below.heap_alloc _ _ _ (Array.getElem?_eq_some_iff.1 j3).1)).trans j3⟩
  · have old : ∀ n, n < 4352 → ∀ b g, f n = some (b, g) → b < W.heap.size := fun n hn b g hf' => (Array.getElem?_eq_some_iff.1 (h.blk _ _ _ hn hf').2.2).1
    by_cases e : n = x / 256
    · simp only [e, if_true] at h5; cases h5
      by_cases e2 : m = x / 256
      · omega
      · rw [if_neg e2] at h6; have := old _ hm' _ _ h6; omega
    · rw [if_neg e] at h5
      by_cases e2 : m = x / 256
      · simp only [e2, if_true] at h6; cases h6; have := old _ hn _ _ h5; omega
      · rw [if_neg e2] at h6; exact h.inj _ _ _ _ _ hn hm' h5 h6

/-- A slice of entries, as it reads. -/
def RdEnt (W : World) (v : Value) (es : List (Int × Int)) : Prop :=
  ∃ A c, v = .slice A es.length c ∧ es.length ≤ 140737488355328 ∧ ∀ j, (h : j < es.length) → ∃ g, A = some ⟨g, 0, none⟩ ∧ W.cell? ⟨g, j * 2, none⟩ = some (.int .i32 es[j].1) ∧ W.cell? ⟨g, j * 2 + 1, none⟩ = some (.int .i64 es[j].2)

theorem in_calls (c : Int) (w : World) : Calls Tryd.prog 42 #[.int .i32 c] w fun e w' => e = .returned (.bool (decide (0 ≤ c ∧ c ≤ 1114111))) ∧ w = w' := by
  by_cases h1 : 0 ≤ c
  · by_cases h2 : c ≤ 1114111
    · go_enter Tryd.func42, Tryd.ntmps42
      go_wp2
      go_ret
      simp [h1, h2]
    · go_enter Tryd.func42, Tryd.ntmps42
      go_wp2
      go_ret
      simp [h1, h2]
  · go_enter Tryd.func42, Tryd.ntmps42
    go_wp2
    go_ret
    simp
    intro h; omega
end Go.Proofs.YtejikiebhjiocaaDoor
