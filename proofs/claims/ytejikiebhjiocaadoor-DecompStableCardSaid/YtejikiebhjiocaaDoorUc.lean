/- The Unicode tables as they stand, and what is asked of them. -/
import Derived.Test.YtejikiebhjiocaaDoorGt
set_option linter.unusedVariables false
set_option linter.unusedSimpArgs false
namespace Go.Proofs.YtejikiebhjiocaaDoor
open Go.RowKit

structure UcdD where
  cls : Nat → Int
  pair : Nat → Int
  single : Nat → Int
  pairs : List (Int × Int)
  joined : Int → Int → Option Int
  seconds : Int → Option Int

structure UcdIs (W : World) (p : Nat) (D : UcdD) : Prop where
  is : ∃ (cs : Array Value) (pc pp ps : Nat) (A : Option Addr) (cap mj ms : Nat) (Sj Ss : Value → Option Value), W.heap[p]? = some (.cells cs 47 (0, 0)) ∧
    cs[0]? = some (.pointer (some ⟨pc, 0, none⟩)) ∧ cs[1]? = some (.pointer (some ⟨pp, 0, none⟩)) ∧ cs[2]? = some (.pointer (some ⟨ps, 0, none⟩)) ∧ cs[3]? = some (.slice A D.pairs.length cap) ∧
    cs[4]? = some (.map (some mj)) ∧ cs[5]? = some (.map (some ms)) ∧
    TableIs W pc D.cls ∧ TableIs W pp D.pair ∧ TableIs W ps D.single ∧
    (∀ j, (h : j < D.pairs.length) → ∃ G, A = some ⟨G, 0, none⟩ ∧ W.cell? ⟨G, j * 2, none⟩ = some (.int .i32 D.pairs[j].1) ∧ W.cell? ⟨G, j * 2 + 1, none⟩ = some (.int .i32 D.pairs[j].2)) ∧
    IsMap Tryd.prog 77 W mj Sj ∧ (∀ a b, Sj (.agg #[.int .i32 a, .int .i32 b]) = (D.joined a b).map (Value.int .i32)) ∧
    IsMap Tryd.prog 21 W ms Ss ∧ (∀ c, Ss (.int .i32 c) = (D.seconds c).map (Value.int .i64))

theorem UcdIs.of_heap {W W' : World} {p : Nat} {D : UcdD} (h : UcdIs W p D) (hk : ∀ k, k < W.heap.size → W'.heap[k]? = W.heap[k]?) : UcdIs W' p D := by
  obtain ⟨cs, pc, pp, ps, A, cap, mj, ms, Sj, Ss, h0, h1, h2, h3, h4, h5, h6, h7, h8, h9, h10, h11, h12, h13, h14⟩ := h.is
  refine ⟨cs, pc, pp, ps, A, cap, mj, ms, Sj, Ss, (hk _ (Array.getElem?_eq_some_iff.1 h0).1).trans h0, h1, h2, h3, h4, h5, h6, h7.of_heap hk, h8.of_heap hk, h9.of_heap hk, fun j hj => ?_, h11.of_heap (hk _ h11.lt), h12, h13.of_heap (hk _ h13.lt), h14⟩
  obtain ⟨G, e, k1, k2⟩ := h10 j hj
  have hc : ∀ o v, W.cell? ⟨G, o, none⟩ = some v → W'.cell? ⟨G, o, none⟩ = some v := fun o v hv => (World.cell?_of_block (w := W) (a := ⟨G, o, none⟩) (hk G (World.block_lt_of_cell? _ _ hv))).trans hv
  exact ⟨G, e, hc _ _ k1, hc _ _ k2⟩
theorem UcdIs.below {W W' : World} {p n : Nat} {D : UcdD} (h : UcdIs W p D) (hB : Below n W W') (hn : W.heap.size ≤ n) : UcdIs W' p D := h.of_heap fun k hk => hB.block k (Nat.lt_of_lt_of_le hk hn)
theorem UcdIs.drewN {W : World} {p : Nat} {D : UcdD} (h : UcdIs W p D) (n : Nat) : UcdIs (W.drewN n) p D := h.of_heap fun _ _ => rfl
theorem TableIs.drewN {W : World} {p : Nat} {g : Nat → Int} (h : TableIs W p g) (n : Nat) : TableIs (W.drewN n) p g := h.of_heap fun _ _ => rfl

def InI32 (x : Int) : Prop := -2147483648 ≤ x ∧ x ≤ 2147483647
def clsV (D : UcdD) (c : Int) : Int := getV D.cls c
def singleV (D : UcdD) (c : Int) : Int := wrap32 (getV D.single c)
def pairV (D : UcdD) (c : Int) : Int × Int × Bool := if getV D.pair c = 0 then (0, 0, false) else let q := D.pairs.getD (getV D.pair c - 1).toNat (0, 0); (q.1, q.2, true)
def isScalar (c : Int) : Bool := decide (0 ≤ c ∧ c ≤ 1114111 ∧ (c < 55296 ∨ 57343 < c))
def joinedV (D : UcdD) (a b : Int) : Int × Bool := ((D.joined a b).getD 0, (D.joined a b).isSome && isScalar ((D.joined a b).getD 0))
def secondV (D : UcdD) (c : Int) : Bool := decide (0 < (D.seconds c).getD 0)

set_option maxHeartbeats 4000000 in
theorem class_calls (w : World) (p : Nat) (D : UcdD) (c : Int) (h : UcdIs w p D) :
    Calls Tryd.prog 11 #[.pointer (some ⟨p, 0, none⟩), .int .i32 c] w fun e w' => e = .returned (.int .i64 (clsV D c)) ∧ ∃ m, w' = w.drewN m := by
  obtain ⟨cs, pc, pp, ps, A, cap, mj, ms, Sj, Ss, h0, h1, h2, h3, h4, h5, h6, h7, h8, h9, h10, h11, h12, h13, h14⟩ := h.is
  have hc1 : w.cell? ⟨p, 0, none⟩ = some (.pointer (some ⟨pc, 0, none⟩)) := by rw [cell_of_row _ _ _ _ _ _ h0]; exact h1
  clear h0 h1 h2 h3 h4 h5 h6 h8 h9 h10 h11 h12 h13 h14 h
  go_enter Tryd.func11, Tryd.ntmps11
  go_wp2_with (go_at_call 29; refine (get_calls w pc D.cls c h7).mono ?_; rintro e w' ⟨rfl, m, rfl⟩)
  go_ret
  exact ⟨rfl, m, rfl⟩

set_option maxHeartbeats 4000000 in
theorem single_calls (w : World) (p : Nat) (D : UcdD) (c : Int) (h : UcdIs w p D) :
    Calls Tryd.prog 44 #[.pointer (some ⟨p, 0, none⟩), .int .i32 c] w fun e w' => e = .returned (.tuple #[.int .i32 (singleV D c), .bool (!decide (singleV D c = 0))]) ∧ ∃ m, w' = w.drewN m := by
  obtain ⟨cs, pc, pp, ps, A, cap, mj, ms, Sj, Ss, h0, h1, h2, h3, h4, h5, h6, h7, h8, h9, h10, h11, h12, h13, h14⟩ := h.is
  have hc1 : w.cell? ⟨p, 2, none⟩ = some (.pointer (some ⟨ps, 0, none⟩)) := by rw [cell_of_row _ _ _ _ _ _ h0]; exact h3
  clear h0 h1 h2 h3 h4 h5 h6 h8 h7 h10 h11 h12 h13 h14 h
  go_enter Tryd.func44, Tryd.ntmps44
  go_wp2_with (go_at_call 29; refine (get_calls w ps D.single c h9).mono ?_; rintro e w' ⟨rfl, m, rfl⟩)
  go_ret2
  refine ⟨?_, m, rfl⟩
  simp [singleV]
  rfl

theorem scalarIs_calls (w : World) (c : Int) : Calls Tryd.prog 66 #[.int .i32 c] w fun e w' => e = .returned (.bool (isScalar c)) ∧ w = w' := by
  by_cases h1 : 0 ≤ c
  · by_cases h2 : c ≤ 1114111
    · by_cases h3 : c < 55296
      · go_enter Tryd.func66, Tryd.ntmps66
        go_wp2
        go_ret
        simp [isScalar, h1, h2, h3]
      · go_enter Tryd.func66, Tryd.ntmps66
        go_wp2
        go_ret
        simp [isScalar, h1, h2, h3]
        omega
    · go_enter Tryd.func66, Tryd.ntmps66
      go_wp2
      go_ret
      simp [isScalar, h1]
      omega
  · go_enter Tryd.func66, Tryd.ntmps66
    go_wp2
    go_ret
    simp [isScalar]
    omega

theorem twoKeyed : Maps.Keyed Tryd.prog 77 := Maps.Keyed.of_law (deep_law_laid tabLaid (m := 2) (by omega) (of_decide_eq_true (by kernel_rfl)) (by kernel_rfl) (by rw [Tryd.underlying77]))
theorem twoKey (a b : Int) (ha : InI32 a) (hb : InI32 b) : ∃ l, keyOf Tryd.prog 77 (.agg #[.int .i32 a, .int .i32 b]) = some l := by
  have h := keyOf_ints (P := Tryd.prog) (t := 77) (e := 21) (n := 2) (q := .i32) (m := Tryd.prog.types.size - 1) Tryd.underlying77 Tryd.underlying21 (by kernel_rfl) (by kernel_rfl) (by kernel_rfl) (by kernel_rfl)
    [a, b] rfl (fun x hx => by
      unfold InI32 at ha hb
      simp at hx
      rcases hx with rfl | rfl <;> simp [Lit.wf, IntKind.min, IntKind.max, IntKind.signed, IntKind.bits] <;> omega)
  exact ⟨_, h⟩

set_option maxHeartbeats 4000000 in
theorem joined_calls (w : World) (p : Nat) (D : UcdD) (a b : Int) (h : UcdIs w p D) (ha : InI32 a) (hb : InI32 b) :
    Calls Tryd.prog 48 #[.pointer (some ⟨p, 0, none⟩), .int .i32 a, .int .i32 b] w fun e w' => e = .returned (.tuple #[.int .i32 (joinedV D a b).1, .bool (joinedV D a b).2]) ∧ w = w' := by
  obtain ⟨cs, pc, pp, ps, A, cap, mj, ms, Sj, Ss, h0, h1, h2, h3, h4, h5, h6, h7, h8, h9, h10, h11, h12, h13, h14⟩ := h.is
  have hc1 : w.cell? ⟨p, 4, none⟩ = some (.map (some mj)) := by rw [cell_of_row _ _ _ _ _ _ h0]; exact h5
  obtain ⟨l, hl⟩ := twoKey a b ha hb
  have hlk := IsMap.run_lookup (P := Tryd.prog) (t := 41) (e := 21) (z := .int .i32 0) twoKeyed Tryd.underlying41 (fun w => by kernel_rfl) h11 hl true
  rw [h12] at hlk
  clear h0 h1 h2 h3 h4 h5 h6 h8 h7 h9 h10 h11 h12 h13 h14 h hl
  cases hj : D.joined a b with
  | none =>
    rw [hj] at hlk
    simp only [if_true, Option.map_none, Option.getD_none, Option.isSome_none] at hlk
    go_enter Tryd.func48, Tryd.ntmps48
    go_wp2
    go_ret2
    simp [joinedV, hj]
  | some c =>
    rw [hj] at hlk
    simp only [if_true, Option.map_some, Option.getD_some, Option.isSome_some] at hlk
    go_enter Tryd.func48, Tryd.ntmps48
    go_wp2_with (go_at_call 66; refine (scalarIs_calls _ _).mono ?_; rintro e w' ⟨rfl, rfl⟩)
    go_ret2
    simp [joinedV, hj]

set_option maxHeartbeats 4000000 in
theorem second_calls (w : World) (p : Nat) (D : UcdD) (c : Int) (h : UcdIs w p D) (hc : InI32 c) :
    Calls Tryd.prog 52 #[.pointer (some ⟨p, 0, none⟩), .int .i32 c] w fun e w' => e = .returned (.bool (secondV D c)) ∧ w = w' := by
  obtain ⟨cs, pc, pp, ps, A, cap, mj, ms, Sj, Ss, h0, h1, h2, h3, h4, h5, h6, h7, h8, h9, h10, h11, h12, h13, h14⟩ := h.is
  have hc1 : w.cell? ⟨p, 5, none⟩ = some (.map (some ms)) := by rw [cell_of_row _ _ _ _ _ _ h0]; exact h6
  have hl := Maps.keyOf_int_mk (P := Tryd.prog) Tryd.underlying21 (a := c) (by unfold InI32 at hc; simp [Lit.wf, IntKind.min, IntKind.max, IntKind.signed, IntKind.bits]; omega)
  have hlk := IsMap.run_lookup (P := Tryd.prog) (t := 42) (e := 3) (z := .int .i64 0) (Maps.int_keyed Tryd.underlying21) Tryd.underlying42 (fun w => by kernel_rfl) h13 hl false
  rw [h14] at hlk
  simp only [Bool.false_eq_true, if_false] at hlk
  have e : ((D.seconds c).map (Value.int .i64)).getD (.int .i64 0) = .int .i64 ((D.seconds c).getD 0) := by cases D.seconds c <;> rfl
  rw [e] at hlk
  clear h0 h1 h2 h3 h4 h5 h6 h8 h7 h9 h10 h11 h12 h13 h14 h hl e
  go_enter Tryd.func52, Tryd.ntmps52
  go_wp2
  go_ret
  simp [secondV]

/-- What the pairs' places are. -/
def PairsOk (D : UcdD) : Prop := ∀ x, x < 1114112 → 0 ≤ D.pair x ∧ D.pair x ≤ D.pairs.length
set_option maxHeartbeats 4000000 in
theorem pair_calls (w : World) (p : Nat) (D : UcdD) (c : Int) (h : UcdIs w p D) (ho : PairsOk D) (hl : D.pairs.length ≤ 100000) :
    Calls Tryd.prog 45 #[.pointer (some ⟨p, 0, none⟩), .int .i32 c] w fun e w' => e = .returned (.tuple #[.int .i32 (pairV D c).1, .int .i32 (pairV D c).2.1, .bool (pairV D c).2.2]) ∧ Below w.heap.size w w' := by
  obtain ⟨cs, pc, pp, ps, A, cap, mj, ms, Sj, Ss, h0, h1, h2, h3, h4, h5, h6, h7, h8, h9, h10, h11, h12, h13, h14⟩ := h.is
  have hc1 : w.cell? ⟨p, 1, none⟩ = some (.pointer (some ⟨pp, 0, none⟩)) := by rw [cell_of_row _ _ _ _ _ _ h0]; exact h2
  have hc2 : w.cell? ⟨p, 3, none⟩ = some (.slice A D.pairs.length cap) := by rw [cell_of_row _ _ _ _ _ _ h0]; exact h4
  have hr : 0 ≤ getV D.pair c ∧ getV D.pair c ≤ D.pairs.length := by
    unfold getV
    split
    · rename_i hc; exact ho _ (by omega)
    · omega
  clear h0 h1 h2 h3 h4 h5 h6 h7 h9 h11 h12 h13 h14 h
  cases hv : getV D.pair c with
  | negSucc n => omega
  | ofNat i =>
    have hg := get_calls w pp D.pair c h8
    rw [hv] at hg hr
    cases i with
    | zero =>
      have e : pairV D c = (0, 0, false) := by unfold pairV; rw [hv]; rfl
      rw [e]
      go_enter Tryd.func45, Tryd.ntmps45
      go_wp2_with (go_at_call 29; refine hg.mono ?_; rintro e w' ⟨rfl, m, rfl⟩)
      go_ret3
      exact ⟨rfl, rfl, rfl, rfl, Nat.le_refl _, fun _ _ => rfl⟩
    | succ j =>
      have hj : j < D.pairs.length := by
        have := hr.2
        simp only [Int.ofNat_eq_natCast] at this
        omega
      obtain ⟨G, rfl, k1, k2⟩ := h10 j hj
      have e : pairV D c = (D.pairs[j].1, D.pairs[j].2, true) := by
        unfold pairV
        rw [hv, if_neg (by simp; omega)]
        have : ((Int.ofNat (j + 1)) - 1).toNat = j := by simp
        simp [this, hj]
      rw [e]
      simp only [Int.ofNat_eq_natCast] at hg
      obtain ⟨a, ha⟩ : ∃ a, a = D.pairs[j].1 := ⟨_, rfl⟩
      obtain ⟨b, hb⟩ : ∃ b, b = D.pairs[j].2 := ⟨_, rfl⟩
      rw [← ha] at k1
      rw [← hb] at k2
      simp only
      rw [← ha, ← hb]
      have hw : IntKind.i64.wrap (((j + 1 : Nat) : Int) - 1) = (j : Int) := by rw [show ((j + 1 : Nat) : Int) - 1 = (j : Int) by omega]; exact IntWalk.i64_in _ (by omega)
      have hne : ((j + 1 : Nat) : Int) ≠ 0 := by omega
      clear ha hb e h10 hv hr ho
      go_enter Tryd.func45, Tryd.ntmps45
      go_wp2_with (go_at_call 29; refine hg.mono ?_; rintro e w2 ⟨rfl, m, hm⟩; have q2 : w2.cell? ⟨p, 3, none⟩ = some (.slice (some ⟨G, 0, none⟩) D.pairs.length cap) := (by rw [hm]; exact hc2); have q3 : w2.cell? ⟨G, j * 2, none⟩ = some (.int .i32 a) := (by rw [hm]; exact k1); have q4 : w2.cell? ⟨G, j * 2 + 1, none⟩ = some (.int .i32 b) := (by rw [hm]; exact k2); have HB := Lib.hid (show Below w.heap.size w w2 by rw [hm]; exact ⟨rfl, rfl, rfl, Nat.le_refl _, fun _ _ => rfl⟩); clear hm hc1 hc2 k1 k2)
      go_region
      go_wp2
      go_ret3
      exact ⟨rfl, (HB.out.alloc HB.out.size _).drew⟩
end Go.Proofs.YtejikiebhjiocaaDoor
