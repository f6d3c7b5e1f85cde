/- A region that draws its order, in a round of a range over a function: by the walk of a plain function's region. -/
import Derived.Test.YtejikiebhjiocaaDoorPc
import Derived.Deep.RegionHeld3
set_option linter.unusedVariables false
set_option linter.unusedSimpArgs false
namespace Go.Proofs.YtejikiebhjiocaaDoor
open Go.RowKit Go.Shelf

def noDefer (o : Oper) : Bool := match o.op with
  | .defer _ => false
  | _ => true

theorem wpIn_of_wpR {P : Program} {l n : Nat} {o : Oper} {a : Act} {w : World} {K : Act → World → Prop} {Q : Exit → Act → World → Prop} (hd : noDefer o = true) (h : o.wp P a w K Q) :
    o.wpIn (Fence.wide.inRound l) n P a w K Q := by
  refine ⟨fun _ _ => trivial, ?_⟩
  have e : o.semAt (Fence.wide.inRound l).round a.eval = execOp a.eval o := Oper.semAt_plain _ _ _ (by intro c hc; simp [noDefer, hc] at hd)
  rw [e]
  unfold Oper.wp at h
  revert h
  generalize (execOp a.eval o).run P w = r
  intro h
  cases r with
  | ok x w' =>
    cases x <;> simp only [Oper.upon, Oper.uponIn] at h ⊢ <;> first
      | exact h
      | exact ⟨fun h' => (by cases h'), (callsIn_wide.2 h : CallsIn Fence.wide _ _ _ _ _ _)⟩
      | exact ⟨fun h' => (by cases h'), fun c cs _ => let ⟨v, w', r, s⟩ := h c cs; ⟨v, w', r, stepsIn_wide.2 s⟩⟩
  | halt x w' => cases x <;> simp only [Oper.upon, Oper.uponIn] at h ⊢ <;> exact h

theorem wpAnyIn_of_wpAny {P : Program} {l n : Nat} {md : Region.Mode} {ops : Array Oper} {Q : Exit → Act → World → Prop} (hd : ops.all noDefer = true) (hL : ¬ LetsOut Q) :
    ∀ (fuel : Nat) (listed : Array Bool) (a : Act) (w : World), wpAny P md ops Q fuel listed a w → wpAnyIn (Fence.wide.inRound l) n P md ops Q fuel listed a w
  | 0, _, _, _, h => h
  | fuel + 1, listed, a, w, h => by
    refine ⟨h.1, fun i hi => ?_⟩
    have hw := h.2 i hi
    unfold wpOp at hw
    unfold wpOpIn
    cases ho : ops[i]? with
    | none => rw [ho] at hw; exact wpAnyIn_of_wpAny hd hL fuel _ _ _ hw
    | some o =>
      rw [ho] at hw
      simp only at hw ⊢
      split
      · rename_i hwd
        rw [if_pos hwd] at hw
        rcases hw with hw | hw
        · refine Oper.wpIn_mono (fun a w h' => wpAnyIn_of_wpAny hd hL fuel _ _ _ h') (wpIn_of_wpR ?_ hw)
          obtain ⟨hlt, he⟩ := Array.getElem?_eq_some_iff.1 ho
          rw [← he]; exact Array.all_eq_true.1 hd i hlt
        · exact absurd hw.2 hL
      · rename_i hwd
        rw [if_neg hwd] at hw
        exact ⟨fun _ _ => trivial, wpAnyIn_of_wpAny hd hL fuel _ _ _ hw⟩

theorem wpIn_region_R {P : Program} {l n id : Nat} {ops : Array Oper} {Q : Exit → Act → World → Prop} {S : World → Prop} {a : Act} {w : World} (hm : P.follows .mixedOrders = true) (hd : ops.all noDefer = true)
    (h : wpAnyH P .any ops (onlyN Q) S ops.size (Array.replicate ops.size false) a w.drew) : (Code.region id ops true).wpIn (Fence.wide.inRound l) n P Q a w := by
  refine wpIn_mono (Q := onlyN Q) ?_ (fun e a w h => onlyN_imp h)
  refine wpIn_region_any hm (wpAnyIn_of_wpAny hd ?_ _ _ _ _ (wpAny_of_held _ _ _ _ h))
  rintro ⟨a, w, h⟩
  exact h
theorem wpIn_of_wpW {P : Program} {n : Nat} {o : Oper} {a : Act} {w : World} {K : Act → World → Prop} {Q : Exit → Act → World → Prop} (hd : noDefer o = true) (h : o.wp P a w K Q) :
    o.wpIn Fence.wide n P a w K Q := by
  refine ⟨fun _ _ => trivial, ?_⟩
  have e : o.semAt Fence.wide.round a.eval = execOp a.eval o := Oper.semAt_plain _ _ _ (by intro c hc; simp [noDefer, hc] at hd)
  rw [e]
  unfold Oper.wp at h
  revert h
  generalize (execOp a.eval o).run P w = r
  intro h
  cases r with
  | ok x w' =>
    cases x <;> simp only [Oper.upon, Oper.uponIn] at h ⊢ <;> first
      | exact h
      | exact ⟨fun h' => (by cases h'), (callsIn_wide.2 h : CallsIn Fence.wide _ _ _ _ _ _)⟩
      | exact ⟨fun h' => (by cases h'), fun c cs _ => let ⟨v, w', r, s⟩ := h c cs; ⟨v, w', r, stepsIn_wide.2 s⟩⟩
  | halt x w' => cases x <;> simp only [Oper.upon, Oper.uponIn] at h ⊢ <;> exact h

theorem wpAnyIn_of_wpAnyW {P : Program} {n : Nat} {md : Region.Mode} {ops : Array Oper} {Q : Exit → Act → World → Prop} (hd : ops.all noDefer = true) (hL : ¬ LetsOut Q) :
    ∀ (fuel : Nat) (listed : Array Bool) (a : Act) (w : World), wpAny P md ops Q fuel listed a w → wpAnyIn Fence.wide n P md ops Q fuel listed a w
  | 0, _, _, _, h => h
  | fuel + 1, listed, a, w, h => by
    refine ⟨h.1, fun i hi => ?_⟩
    have hw := h.2 i hi
    unfold wpOp at hw
    unfold wpOpIn
    cases ho : ops[i]? with
    | none => rw [ho] at hw; exact wpAnyIn_of_wpAnyW hd hL fuel _ _ _ hw
    | some o =>
      rw [ho] at hw
      simp only at hw ⊢
      split
      · rename_i hwd
        rw [if_pos hwd] at hw
        rcases hw with hw | hw
        · refine Oper.wpIn_mono (fun a w h' => wpAnyIn_of_wpAnyW hd hL fuel _ _ _ h') (wpIn_of_wpW ?_ hw)
          obtain ⟨hlt, he⟩ := Array.getElem?_eq_some_iff.1 ho
          rw [← he]; exact Array.all_eq_true.1 hd i hlt
        · exact absurd hw.2 hL
      · rename_i hwd
        rw [if_neg hwd] at hw
        exact ⟨fun _ _ => trivial, wpAnyIn_of_wpAnyW hd hL fuel _ _ _ hw⟩

theorem wpIn_region_W {P : Program} {n id : Nat} {ops : Array Oper} {Q : Exit → Act → World → Prop} {S : World → Prop} {a : Act} {w : World} (hm : P.follows .mixedOrders = true) (hd : ops.all noDefer = true)
    (h : wpAnyH P .any ops (onlyN Q) S ops.size (Array.replicate ops.size false) a w.drew) : (Code.region id ops true).wpIn Fence.wide n P Q a w := by
  refine wpIn_mono (Q := onlyN Q) ?_ (fun e a w h => onlyN_imp h)
  refine wpIn_region_any hm (wpAnyIn_of_wpAnyW hd ?_ _ _ _ _ (wpAny_of_held _ _ _ _ h))
  rintro ⟨a, w, h⟩
  exact h
theorem step_app {ops : Array Oper} {t : TypeId} {ap : Array Value → Sem Value} (hap : ∀ args, Builtin.append_ #[t, t] t args = ap args) {o : Oper} {a : Act} {w : World} {K : Act → World → Prop} {Q : Exit → Act → World → Prop} {E : Prop} (hg : o.guard = none) (s x : Operand)
    (ho : o.op = .call { callee := .builtin .append, args := #[s, x], argTypes := #[t, t] }) (hty : o.type = t) {v1 v2 v' : Value} {w' : World} (hs : a.eval s = v1) (hx : a.eval x = v2)
    (hr : (ap #[v1, v2]).run Tryd.prog w = .ok v' w') (h : K (a.put o.dst v') w') : if Region.wanted o (yielded ops a.tmps) = true then Oper.wp Tryd.prog o a w K Q else E := by
  have hw : Region.wanted o (yielded ops a.tmps) = true := by simp [Region.wanted, hg]
  rw [if_pos hw]
  rw [← hap] at hr
  subst hty
  unfold Oper.wp execOp
  simp only [ho, resolve, invoke, builtin, Sem.run_bind, Sem.run_pure, Result.andThen_ok, List.map_toArray, List.map_cons, List.map_nil, hs, hx, hr]
  exact h

/-- By what is left, said once. -/
theorem wpIn_via {F : Fence} {n : Nat} {P : Program} {c : Code} {Q : Exit → Act → World → Prop} {a : Act} {w : World} {A : Act} {W : World} (h : c.wpIn F n P (fun e a' w' => e = .normal ∧ a' = A ∧ w' = W) a w) (hQ : Q .normal A W) : c.wpIn F n P Q a w :=
  wpIn_mono h (by rintro e a' w' ⟨rfl, rfl, rfl⟩; exact hQ)
end Go.Proofs.YtejikiebhjiocaaDoor
