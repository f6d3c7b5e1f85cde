/- DecompStable: the law's own walk: its examples first. -/
import Derived.Test.YtejikiebhjiocaaDoorAw
set_option linter.unusedVariables false
set_option linter.unusedSimpArgs false
namespace Go.Proofs.YtejikiebhjiocaaDoor
open Go.RowKit

theorem below_drewN {n m : Nat} {w W : World} (h : Below n w W) : Below n w (W.drewN m) := h.trans ⟨rfl, rfl, rfl, Nat.le_refl _, fun _ _ => rfl⟩
theorem rdR_lit {W : World} {xs : List Int} {n : Nat} (h : xs.length = n) (hl : xs.length ≤ 1000000) : RdR (W.alloc (.cells (xs.map (Value.int .i32)).toArray 21)) (.slice (some ⟨W.heap.size, 0, none⟩) n n) xs := by
  subst h
  refine ⟨_, _, rfl, hl, fun j hj => ⟨_, _, rfl, ?_⟩⟩
  rw [cell_of_row _ _ _ _ _ _ (heap_alloc_new _ _)]
  simp [hj]
def TruePost (w : World) (e : Ending) (w' : World) : Prop := e = .returned (.bool true) ∧ Below w.heap.size w w'
set_option maxRecDepth 100000 in
set_option maxHeartbeats 4000000 in
theorem awake7_calls (w : World) (p : Nat) (hU : UcdIs w p tabD) : Calls Tryd.prog 13 #[.pointer (some ⟨p, 0, none⟩)] w (TruePost w) := by
  obtain ⟨D, hD⟩ : ∃ D, D = tabD := ⟨_, rfl⟩
  have hok := tabD_ok
  have e1 := ex_full
  have e2 := ex_ord
  have e3 := ex_flat
  have e4 := ex_ord2
  rw [← hD] at hU hok e1 e2 e3 e4
  have HU := Lib.hid hU
  have HE := Lib.hid (And.intro hok (And.intro e1 (And.intro e2 (And.intro e3 e4))))
  clear hD hU hok e1 e2 e3 e4
  go_enter Tryd.func13, Tryd.ntmps13
  go_wp2_with fail
  refine (full_calls D HE.out.1 5 7845 _ _ p HE.out.2.1 (by simp) (by unfold InI32; omega) HU.out).mono ?_
  rintro e w1 ⟨v1, rfl, r1, b1⟩
  obtain ⟨A1, d1, rfl, _⟩ := id r1
  have H1 := Lib.hid (And.intro r1 b1)
  clear r1 b1
  go_wp2_with fail
  have bA : Below w.heap.size w (w1.alloc (.cells #[.int .i32 97, .int .i32 769, .int .i32 807] 21)) := H1.out.2.trans ((Below.refl _ _).alloc H1.out.2.size _)
  refine (order_calls _ p D _ [97, 769, 807] (HU.out.below bA (Nat.le_refl _)) (rdR_lit rfl (by simp))).mono ?_
  rintro e w2 ⟨v2, rfl, r2, b2⟩
  rw [HE.out.2.2.1] at r2
  obtain ⟨A2, d2, rfl, _⟩ := id r2
  have H2 := Lib.hid (And.intro (H1.out.1.below ((Below.refl w1.heap.size w1).alloc (Nat.le_refl _) (.cells #[.int .i32 97, .int .i32 769, .int .i32 807] 21)) (Nat.le_refl _) |>.below b2 (Nat.le_refl _)) (And.intro r2 (bA.trans (b2.mono bA.size))))
  clear r2 b2 bA
  go_wp2_with fail
  have bB : Below w.heap.size w (w2.alloc (.cells #[.int .i32 8491] 21)) := H2.out.2.2.trans ((Below.refl _ _).alloc H2.out.2.2.size _)
  refine (all_calls D HE.out.1 5 _ p _ [8491] [65, 778] HE.out.2.2.2.1 (by simp) (by intro x hx; simp at hx; subst hx; unfold InI32; omega) (HU.out.below bB (Nat.le_refl _)) (rdR_lit rfl (by simp))).mono ?_
  rintro e w3 ⟨v3, rfl, r3, b3⟩
  rw [HE.out.2.2.2.2] at r3
  obtain ⟨A3, d3, rfl, _⟩ := id r3
  have bC : Below w2.heap.size w2 (w2.alloc (.cells #[.int .i32 8491] 21)) := (Below.refl _ _).alloc (Nat.le_refl _) _
  have H3 := Lib.hid (And.intro ((H2.out.1.below bC (Nat.le_refl _)).below b3 (Nat.le_refl _)) (And.intro ((H2.out.2.1.below bC (Nat.le_refl _)).below b3 (Nat.le_refl _)) (And.intro r3 (bB.trans (b3.mono bB.size)))))
  clear r3 b3 bB bC
  go_wp2_with fail
  have bD : Below w3.heap.size w3 (w3.alloc (.cells #[.int .i32 97, .int .i32 770, .int .i32 769] 21)) := (Below.refl _ _).alloc (Nat.le_refl _) _
  refine (same_calls _ _ _ [97, 770, 769] [97, 770, 769] (H3.out.1.below bD (Nat.le_refl _)) (rdR_lit rfl (by simp))).mono ?_
  rintro e w4 ⟨rfl, m4, hw4⟩
  have bE : Below w3.heap.size w3 w4 := by rw [hw4]; exact below_drewN bD
  have H4 := Lib.hid (And.intro (H3.out.2.1.below bE (Nat.le_refl _)) (And.intro (H3.out.2.2.1.below bE (Nat.le_refl _)) (H3.out.2.2.2.trans (bE.mono H3.out.2.2.2.size))))
  clear bD bE hw4
  rw [show decide (([97, 770, 769] : List Int) = [97, 770, 769]) = true from rfl]
  go_wp2_with fail
  have bD : Below w4.heap.size w4 (w4.alloc (.cells #[.int .i32 97, .int .i32 807, .int .i32 769] 21)) := (Below.refl _ _).alloc (Nat.le_refl _) _
  refine (same_calls _ _ _ [97, 807, 769] [97, 807, 769] (H4.out.1.below bD (Nat.le_refl _)) (rdR_lit rfl (by simp))).mono ?_
  rintro e w5 ⟨rfl, m5, hw5⟩
  have bE : Below w4.heap.size w4 w5 := by rw [hw5]; exact below_drewN bD
  have H5 := Lib.hid (And.intro (H4.out.2.1.below bE (Nat.le_refl _)) (H4.out.2.2.trans (bE.mono H4.out.2.2.size)))
  clear bD bE hw5
  rw [show decide (([97, 807, 769] : List Int) = [97, 807, 769]) = true from rfl]
  go_wp2_with fail
  have bD : Below w5.heap.size w5 (w5.alloc (.cells #[.int .i32 65, .int .i32 778] 21)) := (Below.refl _ _).alloc (Nat.le_refl _) _
  refine (same_calls _ _ _ [65, 778] [65, 778] (H5.out.1.below bD (Nat.le_refl _)) (rdR_lit rfl (by simp))).mono ?_
  rintro e w6 ⟨rfl, m6, hw6⟩
  have bE : Below w5.heap.size w5 w6 := by rw [hw6]; exact below_drewN bD
  have H6 := Lib.hid (H5.out.2.trans (bE.mono H5.out.2.size))
  clear bD bE hw6
  rw [show decide (([65, 778] : List Int) = [65, 778]) = true from rfl]
  go_wp2
  go_ret
  exact ⟨rfl, H6.out⟩
end Go.Proofs.YtejikiebhjiocaaDoor
