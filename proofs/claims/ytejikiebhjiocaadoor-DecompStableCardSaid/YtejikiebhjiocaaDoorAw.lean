/- The chapter's examples: what the tables tell at some places, by reckoning; awake. -/
import Derived.Test.YtejikiebhjiocaaDoorFl
set_option linter.unusedVariables false
set_option linter.unusedSimpArgs false
namespace Go.Proofs.YtejikiebhjiocaaDoor
open Go.RowKit
set_option maxRecDepth 100000

theorem lastV_bound (l : List (Int × Int)) (a b : Int) (h0 : a ≤ 0 ∧ 0 ≤ b) (h : ∀ e ∈ l, a ≤ e.2 ∧ e.2 ≤ b) (x : Int) : a ≤ lastV l x ∧ lastV l x ≤ b := by
  have go : ∀ (l : List (Int × Int)) (y : Int), (∀ e ∈ l, a ≤ e.2 ∧ e.2 ≤ b) → a ≤ y ∧ y ≤ b → a ≤ l.foldl (fun acc e => if e.1 = x then e.2 else acc) y ∧ l.foldl (fun acc e => if e.1 = x then e.2 else acc) y ≤ b := by
    intro l
    induction l with
    | nil => intro y _ h; exact h
    | cons e l ih =>
      intro y hl hy
      rw [List.foldl_cons]
      refine ih _ (fun e' he => hl e' (List.mem_cons_of_mem _ he)) ?_
      split
      · exact hl e List.mem_cons_self
      · exact hy
  exact go l 0 h h0
theorem tabD_len : tabD.pairs.length = 1026 := of_decide_eq_true (by kernel_rfl)
theorem tabD_ok : DOk tabD := by
  refine ⟨fun x _ => ?_, ?_, fun q hq => ?_⟩
  · have h := lastV_bound (idxE 0 prEs) 0 1026 (by omega) (fun e he => bound_of_all prEs_val e.2 (List.mem_map.2 ⟨e, he, rfl⟩)) (x : Int)
    have hl : tabD.pairs.length = 1026 := tabD_len
    rw [hl]
    exact h
  · have hl : tabD.pairs.length = 1026 := tabD_len
    omega
  · have h1 : (tabD.pairs.map (·.1)).all (fun x => decide (0 ≤ x) && decide (x ≤ 1114111)) = true := by kernel_rfl
    have h2 : (tabD.pairs.map (·.2)).all (fun x => decide (0 ≤ x) && decide (x ≤ 1114111)) = true := by kernel_rfl
    have k1 := bound_of_all h1 q.1 (List.mem_map.2 ⟨q, hq, rfl⟩)
    have k2 := bound_of_all h2 q.2 (List.mem_map.2 ⟨q, hq, rfl⟩)
    unfold InI32; omega
theorem clsV_ge (c : Int) : 0 ≤ clsV tabD c ∧ clsV tabD c ≤ 254 := by
  unfold clsV getV
  split
  · exact lastV_bound clsEs 0 254 (by omega) (fun e he => bound_of_all clsEs_val e.2 (List.mem_map.2 ⟨e, he, rfl⟩)) _
  · omega

theorem ex_full : fullO tabD 5 7845 = some [97, 770, 769] := by kernel_rfl
theorem ex_ord : ordL (clsV tabD) [97, 769, 807] = [97, 807, 769] := by kernel_rfl
theorem ex_flat : flatO tabD 5 [8491] = some [65, 778] := by kernel_rfl
theorem ex_ord2 : ordL (clsV tabD) [65, 778] = [65, 778] := by kernel_rfl
end Go.Proofs.YtejikiebhjiocaaDoor
