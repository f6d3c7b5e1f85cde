/- What the rows come to. -/
import Derived.Test.YtejikiebhjiocaaDoorDu
set_option linter.unusedVariables false
set_option linter.unusedSimpArgs false
namespace Go.Proofs.YtejikiebhjiocaaDoor
open Go.RowKit
set_option maxRecDepth 100000

/-! The entries, row by row. -/
def sgE : Int → List (Int × Int × Int) → List (Int × Int)
  | _, [] => []
  | p, r :: l => (wrap32 (p + r.1), r.2.1) :: sgE (wrap32 (p + r.1)) l
theorem sgE_go : ∀ (l : List (Int × Int × Int)) (p : Int) (es : List (Int × Int)), (l.foldl sgRow (p, es)).2 = es ++ sgE p l
  | [], _, _ => by simp [sgE]
  | r :: l, p, es => by rw [List.foldl_cons, show sgRow (p, es) r = (wrap32 (p + r.1), es ++ [(wrap32 (p + r.1), r.2.1)]) from rfl, sgE_go l]; simp [sgE]
theorem sgAll_E (l : List (Int × Int × Int)) : (sgAll l).2 = sgE 0 l := by unfold sgAll; rw [sgE_go]; rfl
theorem sgLit_es : (sgAll sgLit).2 = sgEs := by rw [sgAll_E]; kernel_rfl

def prE : Int → List ((Int × Int × Int) × Bool) → List (Int × Int × Int × Bool)
  | _, [] => []
  | p, r :: l => (wrap32 (p + r.1.1), r.1.2.1, r.1.2.2, r.2) :: prE (wrap32 (p + r.1.1)) l
def idxE : Nat → List (Int × Int × Int × Bool) → List (Int × Int)
  | _, [] => []
  | i, e :: l => (e.1, ((i + 1 : Nat) : Int)) :: idxE (i + 1) l
def jlE : List (Int × Int × Int × Bool) → List ((Int × Int) × Int)
  | [] => []
  | e :: l => if e.2.2.2 then jlE l else ((e.2.1, e.2.2.1), e.1) :: jlE l
def slE : List (Int × Int × Int × Bool) → List Int
  | [] => []
  | e :: l => if e.2.2.2 then slE l else e.2.2.1 :: slE l
theorem prE_go : ∀ (l : List ((Int × Int × Int) × Bool)) (p : Int) (pairs es : List (Int × Int)) (jl : List ((Int × Int) × Int)) (sl : List Int), ∃ p', l.foldl psRow ⟨p, pairs, es, jl, sl⟩ =
    ⟨p', pairs ++ (prE p l).map (fun e => (e.2.1, e.2.2.1)), es ++ idxE pairs.length (prE p l), jl ++ jlE (prE p l), sl ++ slE (prE p l)⟩
  | [], p, _, _, _, _ => ⟨p, by simp [prE, idxE, jlE, slE]⟩
  | r :: l, p, pairs, es, jl, sl => by
    rw [List.foldl_cons, show psRow ⟨p, pairs, es, jl, sl⟩ r = ⟨wrap32 (p + r.1.1), pairs ++ [(r.1.2.1, r.1.2.2)], es ++ [(wrap32 (p + r.1.1), ((pairs.length + 1 : Nat) : Int))], if r.2 then jl else jl ++ [((r.1.2.1, r.1.2.2), wrap32 (p + r.1.1))], if r.2 then sl else sl ++ [r.1.2.2]⟩ from rfl]
    obtain ⟨p', h⟩ := prE_go l (wrap32 (p + r.1.1)) (pairs ++ [(r.1.2.1, r.1.2.2)]) (es ++ [(wrap32 (p + r.1.1), ((pairs.length + 1 : Nat) : Int))]) (if r.2 then jl else jl ++ [((r.1.2.1, r.1.2.2), wrap32 (p + r.1.1))]) (if r.2 then sl else sl ++ [r.1.2.2])
    refine ⟨p', ?_⟩
    rw [h]
    obtain ⟨⟨a, b, c⟩, o⟩ := r
    cases o <;> simp [prE, idxE, jlE, slE]
theorem psAll_E (l : List ((Int × Int × Int) × Bool)) : (psAll l).pairs = (prE 0 l).map (fun e => (e.2.1, e.2.2.1)) ∧ (psAll l).es = idxE 0 (prE 0 l) ∧ (psAll l).jl = jlE (prE 0 l) ∧ (psAll l).sl = slE (prE 0 l) := by
  obtain ⟨p', h⟩ := prE_go l 0 [] [] [] []
  unfold psAll
  rw [h]; simp
theorem prLit_es : prE 0 prLit = prEs := by kernel_rfl

def clsSeg (v : Int) : Int → Nat → List (Int × Int)
  | _, 0 => []
  | p, k + 1 => (p, v) :: clsSeg v (wrap32 (p + 1)) k
def clsEnd : Int → Nat → Int
  | p, 0 => p
  | p, k + 1 => clsEnd (wrap32 (p + 1)) k
def clsE : Int → List (Int × Int × Int) → List (Int × Int)
  | _, [] => []
  | p, r :: l => clsSeg r.2.2 (wrap32 (p + r.1)) r.2.1.toNat ++ clsE (clsEnd (wrap32 (p + r.1)) r.2.1.toNat) l
theorem clsEnd_succ : ∀ (k : Nat) (p : Int), clsEnd p (k + 1) = wrap32 (clsEnd p k + 1)
  | 0, _ => rfl
  | k + 1, p => clsEnd_succ k (wrap32 (p + 1))
theorem clsSeg_succ (v : Int) : ∀ (k : Nat) (p : Int), clsSeg v p (k + 1) = clsSeg v p k ++ [(clsEnd p k, v)]
  | 0, _ => rfl
  | k + 1, p => by
    show (p, v) :: clsSeg v (wrap32 (p + 1)) (k + 1) = (p, v) :: clsSeg v (wrap32 (p + 1)) k ++ _
    rw [clsSeg_succ v k]; rfl
theorem clsN_E (v : Int) : ∀ (k : Nat) (p : Int) (es : List (Int × Int)), clsN v k (p, es) = (clsEnd p k, es ++ clsSeg v p k)
  | 0, _, es => by simp [clsN, clsEnd, clsSeg]
  | k + 1, p, es => by
    show clsOne v (clsN v k (p, es)) = _
    rw [clsN_E v k, clsEnd_succ, clsSeg_succ]; simp [clsOne]
theorem clsE_go : ∀ (l : List (Int × Int × Int)) (p : Int) (es : List (Int × Int)), (l.foldl clsRow (p, es)).2 = es ++ clsE p l
  | [], _, _ => by simp [clsE]
  | r :: l, p, es => by rw [List.foldl_cons, show clsRow (p, es) r = clsN r.2.2 r.2.1.toNat (wrap32 (p + r.1), es) from rfl, clsN_E, clsE_go l]; simp [clsE]
theorem clsAll_E (l : List (Int × Int × Int)) : (clsAll l).2 = clsE 0 l := by unfold clsAll; rw [clsE_go]; rfl
theorem clsLit_es : (clsAll clsLit).2 = clsEs := by rw [clsAll_E]; kernel_rfl
end Go.Proofs.YtejikiebhjiocaaDoor
