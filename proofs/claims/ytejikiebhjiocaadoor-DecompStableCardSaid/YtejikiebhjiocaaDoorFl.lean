/- decomp.Full and All: in parts, in order. -/
import Derived.Test.YtejikiebhjiocaaDoorHg
set_option linter.unusedVariables false
set_option linter.unusedSimpArgs false
namespace Go.Proofs.YtejikiebhjiocaaDoor
open Go.RowKit

set_option maxRecDepth 100000 in
set_option maxHeartbeats 4000000 in
theorem join_calls (w : World) (R : Nat) (c0 : Nat) (v1 v2 : Value) (xs ys : List Int) (h1 : w.cell? ⟨R, 0, none⟩ = some v1) (h2 : w.cell? ⟨R, 1, none⟩ = some v2) (r1 : RdR w v1 xs) (r2 : RdR w v2 ys) (n1 : xs ≠ []) (n2 : ys ≠ []) (hl : (xs ++ ys).length ≤ 1000000) :
    Calls Tryd.prog 46 #[.slice (some ⟨R, 0, none⟩) 2 c0] w (RowPost w (xs ++ ys)) := by
  obtain ⟨ie, ze, hie, hze, rfl, i1, i2⟩ := int32Info
  obtain ⟨A1, d1, rfl, l1, g1, o1, a1, x1⟩ := r1.open
  obtain ⟨A2, d2, rfl, l2, g2, o2, a2, x2⟩ := r2.open
  obtain rfl := a1 (by cases xs with | nil => exact absurd rfl n1 | cons a l => simp)
  obtain rfl := a2 (by cases ys with | nil => exact absurd rfl n2 | cons a l => simp)
  have hRl := World.block_lt_of_cell? _ _ h1
  have s1 : ∀ W, Below w.heap.size w W → ∀ (j : Nat) (u : Value), (xs.map (Value.int .i32))[j]? = some u → W.cell? ((⟨g1, o1, none⟩ : Addr).add j) = some u := fun W hB j u hu => by
    have hj := (List.getElem?_eq_some_iff.1 hu).1
    rw [List.length_map] at hj
    have hc := x1 j hj
    rw [Addr.add_mid, hB.cell (p := ⟨g1, o1 + j, none⟩) (World.block_lt_of_cell? _ _ hc), hc, ← hu]
    simp [hj]
  have s2 : ∀ W, Below w.heap.size w W → ∀ (j : Nat) (u : Value), (ys.map (Value.int .i32))[j]? = some u → W.cell? ((⟨g2, o2, none⟩ : Addr).add j) = some u := fun W hB j u hu => by
    have hj := (List.getElem?_eq_some_iff.1 hu).1
    rw [List.length_map] at hj
    have hc := x2 j hj
    rw [Addr.add_mid, hB.cell (p := ⟨g2, o2 + j, none⟩) (World.block_lt_of_cell? _ _ hc), hc, ← hu]
    simp [hj]
  have o1' : ∀ u ∈ xs.map (Value.int .i32), u.oneCell' = true := by intro u hu; obtain ⟨y, _, rfl⟩ := List.mem_map.1 hu; rfl
  have o2' : ∀ u ∈ ys.map (Value.int .i32), u.oneCell' = true := by intro u hu; obtain ⟨y, _, rfl⟩ := List.mem_map.1 hu; rfl
  have S := Lib.hid (And.intro s1 (And.intro s2 (And.intro o1' o2')))
  have hl' : xs.length + ys.length ≤ 1000000 := by simpa using hl
  have HR := Lib.hid (And.intro h1 (And.intro h2 hRl))
  clear a1 a2 x1 x2 s1 s2 o1' o2' r1 r2 n1 n2 hl h1 h2 hRl
  go_enter Tryd.func46, Tryd.ntmps46
  go_wp2
  go_loopw [3, 8] (fun out i wr => ∃ k : Nat, k ≤ 2 ∧ i = .int .i64 k ∧ Hid (wr.ownsRow w.heap.size 21 1 out (if k = 0 then [] else if k = 1 then xs else xs ++ ys).length ((if k = 0 then [] else if k = 1 then xs else xs ++ ys).map (Value.int .i32)) ∧ Below w.heap.size w wr)) (fun _ i _ => 2 - (intOf i).toNat)
  case atStart => exact ⟨0, by omega, rfl, Lib.hid ⟨World.ownsRow_nil _ _ _ _, Below.refl _ _⟩⟩
  case round =>
    obtain ⟨k, hk, rfl, hH⟩ := hrel
    obtain rfl | rfl | rfl : k = 0 ∨ k = 1 ∨ k = 2 := by omega
    · obtain ⟨ho, hB⟩ := hH.out
      simp only [if_true, List.map_nil, List.length_nil] at ho
      have q1 : wr.cell? ⟨R, 0, none⟩ = some (.slice (some ⟨g1, o1, none⟩) xs.length d1) := (hB.cell (p := ⟨R, 0, none⟩) HR.out.2.2).trans HR.out.1
      have hsz : w.heap.size ≤ wr.heap.size := hB.size
      have HO := Lib.hid (And.intro ho hB)
      clear hH ho hB
      go_wp2_with (at_builtin; refine wpList_append_own _ rfl _ _ 25 rfl w.heap.size 21 ie (.int .i32 0) 1 4 Tryd.underlying25 hie hze i1 i2 rfl (by decide) _ _ _ rfl HO.out.1 ⟨g1, o1, none⟩ xs.length d1 (xs.map (Value.int .i32)) rfl (by simp) (S.out.1 _ HO.out.2) S.out.2.2.1 ?c3 ?c4 ?c5 ?_)
      try case c3 => (unfold maxLen; omega)
      try case c4 => omega
      try case c5 => (first | omega | (simp; done) | (simp; omega))
      intro v' w1 hown hgrow _
      have HO1 := Lib.hid (And.intro hown (HO.out.2.grown hgrow hsz (fun k' hk' => (HO.out.1.lt k' hk').1)))
      clear hown hgrow
      go_wp2
      go_roundw
      case rel => exact ⟨1, by omega, rfl, Lib.hid ⟨by simpa using HO1.out.1, HO1.out.2⟩⟩
      case measure => simp [intOf]
    · obtain ⟨ho, hB⟩ := hH.out
      simp only [Nat.one_ne_zero, if_false, if_true] at ho
      have q1 : wr.cell? ⟨R, 1, none⟩ = some (.slice (some ⟨g2, o2, none⟩) ys.length d2) := (hB.cell (p := ⟨R, 1, none⟩) HR.out.2.2).trans HR.out.2.1
      have hsz : w.heap.size ≤ wr.heap.size := hB.size
      have HO := Lib.hid (And.intro ho hB)
      clear hH ho hB
      go_wp2_with (at_builtin; refine wpList_append_own _ rfl _ _ 25 rfl w.heap.size 21 ie (.int .i32 0) 1 4 Tryd.underlying25 hie hze i1 i2 rfl (by decide) _ _ _ rfl HO.out.1 ⟨g2, o2, none⟩ ys.length d2 (ys.map (Value.int .i32)) rfl (by simp) (S.out.2.1 _ HO.out.2) S.out.2.2.2 ?c3 ?c4 ?c5 ?_)
      try case c3 => (unfold maxLen; omega)
      try case c4 => omega
      try case c5 => (first | omega | (simp; done) | (simp; omega))
      intro v' w1 hown hgrow _
      have HO1 := Lib.hid (And.intro hown (HO.out.2.grown hgrow hsz (fun k' hk' => (HO.out.1.lt k' hk').1)))
      clear hown hgrow
      go_wp2
      go_roundw
      case rel => exact ⟨2, by omega, rfl, Lib.hid ⟨by simpa using HO1.out.1, HO1.out.2⟩⟩
      case measure => simp [intOf]
    · go_wp2
      go_ret
      refine ⟨_, rfl, ?_, hH.out.2⟩
      have ho := hH.out.1
      simp only [Nat.reduceEqDiff, if_false] at ho
      exact RdR.of_owns ho (by simpa using hl')

/-- What is asked of the tables so that a call returns. -/
structure DOk (D : UcdD) : Prop where
  pairs : PairsOk D
  len : D.pairs.length ≤ 100000
  rng : ∀ q ∈ D.pairs, InI32 q.1 ∧ InI32 q.2

/-- In parts, if so many steps are enough. -/
def fullO (D : UcdD) : Nat → Int → Option (List Int)
  | 0, _ => none
  | n + 1, c => if splitV c ≠ [] then some (splitV c) else if singleV D c ≠ 0 then fullO D n (singleV D c)
    else if (pairV D c).2.2 then (fullO D n (pairV D c).1).bind fun x => (fullO D n (pairV D c).2.1).map fun y => x ++ y else some [c]
theorem fullO_ne (D : UcdD) : ∀ (n : Nat) (c : Int) (zs : List Int), fullO D n c = some zs → zs ≠ []
  | 0, _, _, h => by simp [fullO] at h
  | n + 1, c, zs, h => by
    unfold fullO at h
    split at h
    · rename_i h1; cases h; exact h1
    · split at h
      · exact fullO_ne D n _ _ h
      · split at h
        · cases hx : fullO D n (pairV D c).1 with
          | none => rw [hx] at h; simp at h
          | some x =>
            rw [hx] at h
            simp only [Option.bind_some, Option.map_eq_some_iff] at h
            obtain ⟨y, hy, rfl⟩ := h
            have := fullO_ne D n _ _ hx
            simp [this]
        · cases h; simp
theorem wrap32_in (x : Int) : InI32 (wrap32 x) := by unfold InI32 wrap32; omega
theorem pairV_in {D : UcdD} (h : DOk D) (c : Int) : InI32 (pairV D c).1 ∧ InI32 (pairV D c).2.1 := by
  unfold pairV
  split
  · exact ⟨by unfold InI32; simp, by unfold InI32; simp⟩
  · simp only
    by_cases hl : (getV D.pair c - 1).toNat < D.pairs.length
    · rw [List.getD_eq_getElem?_getD, List.getElem?_eq_getElem hl]
      exact h.rng _ (List.getElem_mem hl)
    · rw [List.getD_eq_getElem?_getD, List.getElem?_eq_none (by omega)]
      exact ⟨by unfold InI32; simp, by unfold InI32; simp⟩

theorem rdR_len {W : World} {v : Value} {xs : List Int} (h : RdR W v xs) : xs.length ≤ 1000000 := by obtain ⟨_, _, _, h, _⟩ := h; exact h
set_option maxRecDepth 100000 in
set_option maxHeartbeats 4000000 in
theorem full_calls (D : UcdD) (hD : DOk D) : ∀ (n : Nat) (c : Int) (zs : List Int) (w : World) (p : Nat), fullO D n c = some zs → zs.length ≤ 1000000 → InI32 c → UcdIs w p D →
    Calls Tryd.prog 30 #[.pointer (some ⟨p, 0, none⟩), .int .i32 c] w (RowPost w zs)
  | 0, _, _, _, _, h, _, _, _ => by simp [fullO] at h
  | n + 1, c, zs, w, p, h, hl, hc, hU => by
    have ih := full_calls D hD n
    have IH := Lib.hid ih
    have HU := Lib.hid hU
    have Hc := Lib.hid hc
    unfold fullO at h
    clear ih hU hc
    by_cases h1 : splitV c ≠ []
    · rw [if_pos h1] at h
      cases h
      have hp : 0 < (splitV c).length := by cases hs : splitV c with | nil => exact absurd hs h1 | cons a l => simp
      clear h1
      go_enter Tryd.func30, Tryd.ntmps30
      go_wp2_with fail
      refine (split_calls _ _ Hc.out).mono ?_
      rintro e w1 ⟨v1, rfl, hr, hB⟩
      have HB := Lib.hid (And.intro hr hB)
      obtain ⟨A1, d1, rfl, _⟩ := hr
      clear hB
      go_wp2
      go_ret
      exact ⟨_, rfl, HB.out⟩
    · rw [if_neg h1] at h
      have hnil : splitV c = [] := by cases hs : splitV c with | nil => rfl | cons a l => rw [hs] at h1; simp at h1
      clear h1
      by_cases h2 : singleV D c ≠ 0
      · rw [if_pos h2] at h
        have hb : decide (singleV D c = 0) = false := by simpa using h2
        obtain ⟨x, hx⟩ : ∃ x, x = singleV D c := ⟨_, rfl⟩
        have hxi : InI32 x := by rw [hx]; exact wrap32_in _
        rw [← hx] at h hb
        have Hx := Lib.hid (And.intro hx (And.intro hb (And.intro h (And.intro hxi hnil))))
        clear h2 hx hb h hxi hnil
        go_enter Tryd.func30, Tryd.ntmps30
        go_wp2_with fail
        refine (split_calls _ _ Hc.out).mono ?_
        rintro e w1 ⟨v1, rfl, hr, hB⟩
        rw [Hx.out.2.2.2.2] at hr
        obtain ⟨A1, d1, rfl, _⟩ := hr
        have HB := Lib.hid hB
        clear hB
        rw [List.length_nil]
        go_wp2_with fail
        refine (single_calls _ _ _ _ (HU.out.below HB.out (Nat.le_refl _))).mono ?_
        rintro e w2 ⟨rfl, m, hw2⟩
        rw [← Hx.out.1, Hx.out.2.1]
        have HB2 : Hid (Below w.heap.size w w2) := Lib.hid (by rw [hw2]; exact HB.out.trans ⟨rfl, rfl, rfl, Nat.le_refl _, fun _ _ => rfl⟩)
        clear hw2
        go_wp2_with fail
        refine (IH.out x zs _ p Hx.out.2.2.1 hl Hx.out.2.2.2.1 (HU.out.below HB2.out (Nat.le_refl _))).mono ?_
        rintro e w3 ⟨v3, rfl, hr3, hB3⟩
        have HB3 := Lib.hid (And.intro hr3 (HB2.out.trans (hB3.mono HB2.out.size)))
        clear hr3 hB3
        go_wp2
        go_ret
        exact ⟨_, rfl, HB3.out⟩
      · rw [if_neg h2] at h
        have hs0 : singleV D c = 0 := by omega
        have hb : decide (singleV D c = 0) = true := by simpa using hs0
        have hpi := pairV_in hD c
        obtain ⟨q, hq⟩ : ∃ q, q = pairV D c := ⟨_, rfl⟩
        rw [← hq] at h hpi
        obtain ⟨a, b, ok⟩ := q
        simp only at h hpi
        have Hx := Lib.hid (And.intro hs0 (And.intro hb (And.intro hq (And.intro hnil hpi))))
        clear h2 hs0 hb hq hnil hpi
        cases ok with
        | false =>
          simp only [if_false, Bool.false_eq_true] at h
          cases h
          go_enter Tryd.func30, Tryd.ntmps30
          go_wp2_with fail
          refine (split_calls _ _ Hc.out).mono ?_
          rintro e w1 ⟨v1, rfl, hr, hB⟩
          rw [Hx.out.2.2.2.1] at hr
          obtain ⟨A1, d1, rfl, _⟩ := hr
          have HB := Lib.hid hB
          clear hB
          rw [List.length_nil]
          go_wp2_with fail
          refine (single_calls _ _ _ _ (HU.out.below HB.out (Nat.le_refl _))).mono ?_
          rintro e w2 ⟨rfl, m, hw2⟩
          rw [Hx.out.1]
          have HB2 : Hid (Below w.heap.size w w2) := Lib.hid (by rw [hw2]; exact HB.out.trans ⟨rfl, rfl, rfl, Nat.le_refl _, fun _ _ => rfl⟩)
          clear hw2
          go_wp2_with fail
          refine (pair_calls _ _ _ _ (HU.out.below HB2.out (Nat.le_refl _)) hD.pairs hD.len).mono ?_
          rintro e w3 ⟨rfl, hB3⟩
          rw [← Hx.out.2.2.1]
          have HB3 := Lib.hid (HB2.out.trans (hB3.mono HB2.out.size))
          clear hB3
          go_wp2
          go_ret
          refine ⟨_, rfl, ⟨_, _, rfl, by simp, fun j hj => ?_⟩, HB3.out.alloc HB3.out.size _⟩
          obtain rfl : j = 0 := by simp at hj; omega
          exact ⟨_, _, rfl, by rw [cell_of_row _ _ _ _ _ _ (heap_alloc_new _ _)]; rfl⟩
        | true =>
          simp only [if_true] at h
          cases hfa : fullO D n a with
          | none => rw [hfa] at h; simp at h
          | some x =>
            rw [hfa] at h
            simp only [Option.bind_some, Option.map_eq_some_iff] at h
            obtain ⟨y, hfb, rfl⟩ := h
            have hl' : x.length + y.length ≤ 1000000 := by simpa using hl
            have Hf := Lib.hid (And.intro hfa (And.intro hfb (And.intro (fullO_ne D n a x hfa) (fullO_ne D n b y hfb))))
            clear hfa hfb
            go_enter Tryd.func30, Tryd.ntmps30
            go_wp2_with fail
            refine (split_calls _ _ Hc.out).mono ?_
            rintro e w1 ⟨v1, rfl, hr, hB⟩
            rw [Hx.out.2.2.2.1] at hr
            obtain ⟨A1, d1, rfl, _⟩ := hr
            have HB := Lib.hid hB
            clear hB
            rw [List.length_nil]
            go_wp2_with fail
            refine (single_calls _ _ _ _ (HU.out.below HB.out (Nat.le_refl _))).mono ?_
            rintro e w2 ⟨rfl, m, hw2⟩
            rw [Hx.out.1]
            have HB2 : Hid (Below w.heap.size w w2) := Lib.hid (by rw [hw2]; exact HB.out.trans ⟨rfl, rfl, rfl, Nat.le_refl _, fun _ _ => rfl⟩)
            clear hw2
            go_wp2_with fail
            refine (pair_calls _ _ _ _ (HU.out.below HB2.out (Nat.le_refl _)) hD.pairs hD.len).mono ?_
            rintro e w3 ⟨rfl, hB3⟩
            rw [← Hx.out.2.2.1]
            have HB3 := Lib.hid (HB2.out.trans (hB3.mono HB2.out.size))
            clear hB3
            go_wp2_with fail
            refine (IH.out a x _ p Hf.out.1 (by omega) Hx.out.2.2.2.2.1 (HU.out.below HB3.out (Nat.le_refl _))).mono ?_
            rintro e w4 ⟨v4, rfl, hr4, hB4⟩
            have HB4 := Lib.hid (And.intro hr4 (HB3.out.trans (hB4.mono HB3.out.size)))
            obtain ⟨A4, d4, rfl, _⟩ := hr4
            clear hB4
            go_wp2_with fail
            refine (IH.out b y _ p Hf.out.2.1 (by omega) Hx.out.2.2.2.2.2 (HU.out.below HB4.out.2 (Nat.le_refl _))).mono ?_
            rintro e w5 ⟨v5, rfl, hr5, hB5⟩
            have HB5 := Lib.hid (And.intro (HB4.out.1.below hB5 (Nat.le_refl _)) (And.intro hr5 (HB4.out.2.trans (hB5.mono HB4.out.2.size))))
            obtain ⟨A5, d5, rfl, _⟩ := hr5
            clear hB5
            go_wp2_with fail
            have hbw : Below w5.heap.size w5 (w5.alloc (.cells #[.slice A4 x.length d4, .slice A5 y.length d5] 25)) := (Below.refl _ _).alloc (Nat.le_refl _) _
            refine (join_calls _ _ _ _ _ x y ?_ ?_ (HB5.out.1.below hbw (Nat.le_refl _)) (HB5.out.2.1.below hbw (Nat.le_refl _)) Hf.out.2.2.1 Hf.out.2.2.2 hl).mono ?_
            · rw [cell_of_row _ _ _ _ _ _ (heap_alloc_new _ _)]; rfl
            · rw [cell_of_row _ _ _ _ _ _ (heap_alloc_new _ _)]; rfl
            rintro e w6 ⟨v6, rfl, hr6, hB6⟩
            have HB6 := Lib.hid (And.intro hr6 ((HB5.out.2.2.trans (hbw.mono HB5.out.2.2.size)).trans (hB6.mono (by have := HB5.out.2.2.size; simp; omega))))
            clear hr6 hB6 hbw
            go_wp2
            go_ret
            exact ⟨_, rfl, HB6.out⟩

/-- All of a row in parts, if so many steps are enough. -/
def flatO (D : UcdD) (n : Nat) : List Int → Option (List Int)
  | [] => some []
  | c :: l => (fullO D n c).bind fun x => (flatO D n l).map fun y => x ++ y
theorem flatO_snoc (D : UcdD) (n : Nat) (c : Int) : ∀ l, flatO D n (l ++ [c]) = (flatO D n l).bind fun x => (fullO D n c).map fun y => x ++ y
  | [] => by simp [flatO]
  | b :: l => by
    rw [List.cons_append, flatO, flatO_snoc D n c l]
    conv => rhs; unfold flatO
    cases fullO D n b <;> cases flatO D n l <;> cases fullO D n c <;> simp
set_option maxRecDepth 100000 in
set_option maxHeartbeats 4000000 in
theorem all_calls (D : UcdD) (hD : DOk D) (n : Nat) (w : World) (p : Nat) (v : Value) (xs zs : List Int) (hz : flatO D n xs = some zs) (hl : zs.length ≤ 1000000) (hi : ∀ x ∈ xs, InI32 x) (hU : UcdIs w p D) (hv : RdR w v xs) :
    Calls Tryd.prog 14 #[.pointer (some ⟨p, 0, none⟩), v] w (RowPost w (ordL (clsV D) zs)) := by
  obtain ⟨A, c, rfl, hlx, g, o, hA, hx⟩ := hv.open
  obtain ⟨ie, ze, hie, hze, rfl, i1, i2⟩ := int32Info
  obtain ⟨w1, hmk, hown, hgrow⟩ := run_make_own (P := Tryd.prog) w w.heap.size 25 21 ie _ 1 Tryd.underlying25 hie hze i1 .i64 .i64 xs.length (by rw [i2]; omega) (by unfold maxLen; omega) (Nat.le_refl _)
  have hB : Below w.heap.size w w1 := ⟨hgrow.os, hgrow.tape, hgrow.output, hgrow.size, fun k hk => hgrow.block k hk (by simp)⟩
  have HA := Lib.hid hA
  have Hx := Lib.hid hx
  have HU := Lib.hid hU
  have Hi := Lib.hid hi
  have Hz := Lib.hid hz
  have H0 := Lib.hid (And.intro hown hB)
  clear hA hx hU hv hown hgrow hB hi hz
  go_enter Tryd.func14, Tryd.ntmps14
  go_wp2
  clear hmk
  go_loopw [5, 13] (fun out i wr => ∃ (k : Nat) (ys rest : List Int), k ≤ xs.length ∧ i = .int .i64 k ∧ Hid (flatO D n (xs.take k) = some ys ∧ flatO D n (xs.drop k) = some rest ∧ zs = ys ++ rest ∧ wr.ownsRow w.heap.size 21 1 out ys.length (ys.map (Value.int .i32)) ∧ Below w.heap.size w wr)) (fun _ i _ => xs.length - (intOf i).toNat)
  case atStart => exact ⟨0, [], zs, Nat.zero_le _, rfl, Lib.hid ⟨rfl, by simpa using Hz.out, rfl, by simpa using H0.out.1, H0.out.2⟩⟩
  case round =>
    obtain ⟨k, ys, rest, hk, rfl, hH⟩ := hrel
    by_cases hlt : k < xs.length
    · obtain ⟨y1, y2, y3, ho, hB⟩ := hH.out
      have eA := HA.out (by omega)
      have c1 : wr.cell? ⟨g, o + k, none⟩ = some (.int .i32 xs[k]) := by
        have h := Hx.out k hlt
        rw [hB.cell (p := ⟨g, o + k, none⟩) (World.block_lt_of_cell? _ _ h)]; exact h
      subst eA
      rw [List.drop_eq_getElem_cons hlt, flatO] at y2
      cases hf : fullO D n xs[k] with
      | none => rw [hf] at y2; simp at y2
      | some x =>
        rw [hf] at y2
        simp only [Option.bind_some, Option.map_eq_some_iff] at y2
        obtain ⟨rest', hr', rfl⟩ := y2
        have htk : flatO D n (xs.take (k + 1)) = some (ys ++ x) := by rw [List.take_succ_eq_append_getElem hlt, flatO_snoc, y1, hf]; rfl
        have hxi := Hi.out xs[k] (List.getElem_mem hlt)
        obtain ⟨cc, hcc⟩ : ∃ cc, cc = xs[k] := ⟨_, rfl⟩
        rw [← hcc] at c1 hf hxi
        have hlen : ys.length + x.length ≤ 1000000 := by rw [y3] at hl; simp at hl; omega
        have HH := Lib.hid (And.intro ho (And.intro hB (And.intro htk (And.intro hr' (And.intro hf (And.intro hxi (And.intro (fullO_ne D n cc x hf) y3)))))))
        clear hH y1 y3 ho hB hf htk hr' hxi hcc
        go_wp2_with fail
        refine (full_calls D hD n cc x _ p HH.out.2.2.2.2.1 (by omega) HH.out.2.2.2.2.2.1 (HU.out.below HH.out.2.1 (Nat.le_refl _))).mono ?_
        rintro e w2 ⟨v2, rfl, hr2, hB2⟩
        have hkeep : w2.ownsRow w.heap.size 21 1 u5 ys.length (ys.map (Value.int .i32)) := by
          have ho := HH.out.1
          refine ⟨ho.1, ho.2.imp id ?_⟩
          rintro ⟨g, cap, cur, k1, k2, k3, k4⟩
          exact ⟨g, cap, cur, k1, k2, (hB2.block g (Array.getElem?_eq_some_iff.1 k3).1).trans k3, k4⟩
        obtain ⟨A2, d2, rfl, _, g2, o2, a2, x2⟩ := hr2.open
        obtain rfl := a2 (by have := HH.out.2.2.2.2.2.2.1; cases x with | nil => exact absurd rfl this | cons a l => simp)
        have hBw : Below w.heap.size w w2 := HH.out.2.1.trans (hB2.mono HH.out.2.1.size)
        have hsz : w.heap.size ≤ w2.heap.size := hBw.size
        have hnews : ∀ (j : Nat) (u : Value), (x.map (Value.int .i32))[j]? = some u → w2.cell? ((⟨g2, o2, none⟩ : Addr).add j) = some u := fun j u hu => by
          have hj := (List.getElem?_eq_some_iff.1 hu).1
          rw [List.length_map] at hj
          rw [Addr.add_mid, x2 j hj, ← hu]
          simp [hj]
        have hone : ∀ u ∈ x.map (Value.int .i32), u.oneCell' = true := by intro u hu; obtain ⟨y, _, rfl⟩ := List.mem_map.1 hu; rfl
        have H2 := Lib.hid (And.intro hkeep (And.intro hBw (And.intro hnews hone)))
        clear hr2 hB2 hkeep x2 hBw hnews hone
        go_wp2_with (at_builtin; refine wpList_append_own _ rfl _ _ 25 rfl w.heap.size 21 ie (.int .i32 0) 1 4 Tryd.underlying25 hie hze i1 i2 rfl (by decide) _ _ _ rfl H2.out.1 ⟨g2, o2, none⟩ x.length d2 (x.map (Value.int .i32)) rfl (by simp) H2.out.2.2.1 H2.out.2.2.2 ?c3 ?c4 ?c5 ?_)
        try case c3 => (unfold maxLen; omega)
        try case c4 => omega
        try case c5 => (first | omega | (simp; done) | (simp; omega))
        intro v' w3 hown hgrow _
        have HO1 := Lib.hid (And.intro hown (H2.out.2.1.grown hgrow hsz (fun k' hk' => (H2.out.1.lt k' hk').1)))
        clear hown hgrow
        go_wp2
        go_roundw
        case rel => exact ⟨k + 1, ys ++ x, rest', by omega, by go_num, Lib.hid ⟨HH.out.2.2.1, HH.out.2.2.2.1, by rw [HH.out.2.2.2.2.2.2.2]; simp, by simpa using HO1.out.1, HO1.out.2⟩⟩
        case measure => simp [intOf]; omega
    · have hd : decide (k < xs.length) = false := by simpa using hlt
      obtain ⟨y1, y2, y3, ho, hB⟩ := hH.out
      rw [List.drop_eq_nil_of_le (by omega)] at y2
      cases y2
      rw [List.append_nil] at y3
      subst y3
      have hrd : RdR wr u5 zs := RdR.of_owns ho hl
      have H := Lib.hid (And.intro hrd hB)
      clear hH y1 ho hB hrd
      go_wp2_with fail
      refine (order_calls _ _ _ _ _ (HU.out.below H.out.2 (Nat.le_refl _)) H.out.1).mono ?_
      rintro e w4 ⟨v4, rfl, hr4, hB4⟩
      have H4 := Lib.hid (And.intro hr4 (H.out.2.trans (hB4.mono H.out.2.size)))
      clear hr4 hB4
      go_wp2
      go_ret
      exact ⟨_, rfl, H4.out⟩
end Go.Proofs.YtejikiebhjiocaaDoor
