/- decomp.Order: a row in order. -/
import Derived.Test.YtejikiebhjiocaaDoorRs
import Derived.Test.YtejikiebhjiocaaDoorOr
import Derived.Laws.CopyOwn
import Derived.Deep.RegionLaw
import Derived.Laws.MakeOwn
import Derived.Deep.AppendLies
set_option linter.unusedVariables false
set_option linter.unusedSimpArgs false
namespace Go.Proofs.YtejikiebhjiocaaDoor
open Go.RowKit

theorem row_form {W : World} {base : Nat} {v : Value} {n : Nat} {xs : List Value} (h : W.ownsRow base 21 1 v n xs) (hn : 0 < n) :
    ∃ (g cap : Nat) (cur : List Value), v = .slice (some ⟨g, 0, none⟩) n cap ∧ base ≤ g ∧ W.heap[g]? = some (.cells cur.toArray 21 (0, 0)) ∧ cur.length = cap ∧ cur.take n = xs ∧ n ≤ cap ∧ cap ≤ maxLen := by
  rcases h.2 with ⟨_, h0⟩ | ⟨g, cap, cur, e, h1, h2, h3, h4, h5, h6⟩
  · omega
  · exact ⟨g, cap, cur.toList, e, h1, by simpa using h2, by simpa using h5, by simpa using h6, h3, h4⟩
theorem row_set {W : World} {G cap n base j : Nat} {L zs : List Value} {v : Value} (hg : W.heap[G]? = some (.cells L.toArray 21 (0, 0))) (hl : L.length = cap) (hb : base ≤ G) (hn : n ≤ cap) (hm : cap ≤ maxLen) (ht : (L.set j v).take n = zs) (hz : zs.length = n) :
    (W.setCell ⟨G, j, none⟩ v).ownsRow base 21 1 (.slice (some ⟨G, 0, none⟩) n cap) n zs :=
  ⟨by omega, .inr ⟨G, cap, _, rfl, hb, heap_setCell_same _ _ _ _ _ _ hg, hn, hm, by simpa using hl, by rw [← ht]; simp⟩⟩
def RowPost (w : World) (zs : List Int) (e : Ending) (w' : World) : Prop := ∃ v, e = .returned v ∧ RdR w' v zs ∧ Below w.heap.size w w'
theorem ins_row {I : Int → Value} {cur : List Value} {out : List Int} {x : Int} {j : Nat} (hj : j ≤ out.length) (hc : out.length + 1 ≤ cur.length) (h : cur.take (out.length + 1) = (out ++ [x]).map I) :
    ((splice cur (j + 1) ((out.drop j).map I)).set j (I x)).take (out.length + 1) = (out.take j ++ x :: out.drop j).map I := by
  have hl : ((splice cur (j + 1) ((out.drop j).map I)).set j (I x)).length = cur.length := by
    rw [List.length_set, length_splice _ _ _ (by simp; omega)]
  apply List.ext_getElem?
  intro i
  rcases Nat.lt_or_ge i (out.length + 1) with hi | hi
  · rw [List.getElem?_take_of_lt hi]
    rcases Nat.lt_trichotomy i j with h1 | h1 | h1
    · rw [List.getElem?_set_ne (by omega), splice, List.getElem?_append_left (by simp; omega), List.getElem?_take_of_lt (by omega)]
      have := congrArg (·[i]?) h
      simp only [List.getElem?_take_of_lt hi] at this
      rw [this, List.map_append, List.map_append, List.getElem?_append_left (by simp; omega), List.getElem?_append_left (by simp; omega)]
      simp [List.getElem?_take_of_lt h1]
    · subst h1
      rw [List.getElem?_set_self (by rw [length_splice _ _ _ (by simp; omega)]; omega)]
      rw [List.map_append, List.getElem?_append_right (by simp; omega)]
      have : i - (List.map I (List.take i out)).length = 0 := by simp; omega
      rw [this]; rfl
    · rw [List.getElem?_set_ne (by omega), splice, List.getElem?_append_right (by simp; omega)]
      have e1 : i - (List.take (j + 1) cur).length = i - (j + 1) := by simp; omega
      rw [e1, List.getElem?_append_left (by simp; omega), List.map_append, List.getElem?_append_right (by simp; omega)]
      have e2 : i - (List.map I (List.take j out)).length = (i - (j + 1)) + 1 := by simp; omega
      rw [e2]; rfl
  · rw [List.getElem?_eq_none (by rw [List.length_take, hl]; omega), List.getElem?_eq_none (by simp; omega)]

set_option maxRecDepth 100000 in
set_option maxHeartbeats 4000000 in
theorem order_calls (w : World) (p : Nat) (D : UcdD) (v : Value) (xs : List Int) (hU : UcdIs w p D) (hv : RdR w v xs) : Calls Tryd.prog 10 #[.pointer (some ⟨p, 0, none⟩), v] w (RowPost w (ordL (clsV D) xs)) := by
  obtain ⟨A, c, rfl, hl, g, o, hA, hx⟩ := hv.open
  obtain ⟨ie, ze, hie, hze, rfl, i1, i2⟩ := int32Info
  obtain ⟨w1, hmk, hown, hgrow⟩ := run_make_own (P := Tryd.prog) w w.heap.size 25 21 ie _ 1 Tryd.underlying25 hie hze i1 .i64 .i64 xs.length (by rw [i2]; omega) (by unfold maxLen; omega) (Nat.le_refl _)
  have hB : Below w.heap.size w w1 := ⟨hgrow.os, hgrow.tape, hgrow.output, hgrow.size, fun k hk => hgrow.block k hk (by simp)⟩
  obtain ⟨f, hf⟩ : ∃ f, f = clsV D := ⟨_, rfl⟩
  have HF := Lib.hid hf
  have HA := Lib.hid hA
  have Hx := Lib.hid hx
  have HU := Lib.hid hU
  have H0 := Lib.hid (And.intro hown hB)
  rw [← hf]
  clear hA hx hU hv hown hgrow hB hf
  go_enter Tryd.func10, Tryd.ntmps10
  go_wp2
  clear hmk
  go_loopw [5, 15] (fun out i wr => ∃ k G cap : Nat, k ≤ xs.length ∧ i = .int .i64 k ∧ out = .slice (some ⟨G, 0, none⟩) k cap ∧ Hid (wr.ownsRow w.heap.size 21 1 (.slice (some ⟨G, 0, none⟩) k cap) k ((ordL f (xs.take k)).map (Value.int .i32)) ∧ Below w.heap.size w wr)) (fun _ i _ => xs.length - (intOf i).toNat)
  case atStart => exact ⟨0, _, _, Nat.zero_le _, rfl, rfl, H0⟩
  case round =>
    obtain ⟨k, G, cap, hk, rfl, rfl, hH⟩ := hrel
    by_cases hlt : k < xs.length
    · have eA := HA.out (by omega)
      have c1 : wr.cell? ⟨g, o + k, none⟩ = some (.int .i32 xs[k]) := by
        have h := Hx.out k hlt
        rw [hH.out.2.cell (p := ⟨g, o + k, none⟩) (World.block_lt_of_cell? _ _ h)]; exact h
      have hUr : UcdIs wr p D := HU.out.below hH.out.2 (Nat.le_refl _)
      have HUr := Lib.hid hUr
      have htk := ordL_take f xs k hlt
      subst eA
      obtain ⟨x, hxx⟩ : ∃ x, x = xs[k] := ⟨_, rfl⟩
      rw [← hxx] at c1 htk
      obtain ⟨out, hout⟩ : ∃ out, out = ordL f (xs.take k) := ⟨_, rfl⟩
      have hol : out.length = k := by rw [hout, ordL_length, List.length_take]; omega
      rw [← hout] at htk
      have hH2 := hH.out
      rw [← hout] at hH2
      have Htk := Lib.hid htk
      have HH := Lib.hid hH2
      have Hol := Lib.hid hol
      clear hxx hUr htk hout hH hH2 hol
      obtain ⟨q, hq⟩ : ∃ q, q = f x := ⟨_, rfl⟩
      go_wp2_with fail
      refine (class_calls _ _ _ _ HUr.out).mono ?_
      rintro e w' ⟨rfl, m, rfl⟩
      rw [← HF.out, ← hq]
      obtain ⟨wc, hwc⟩ : ∃ wc, wc = wr.drewN m := ⟨_, rfl⟩
      have HC : Hid (wc.ownsRow w.heap.size 21 1 (.slice (some ⟨G, 0, none⟩) k cap) k (out.map (Value.int .i32)) ∧ Below w.heap.size w wc ∧ UcdIs wc p D) := by
        rw [hwc]; exact Lib.hid ⟨HH.out.1, HH.out.2.trans (⟨rfl, rfl, rfl, Nat.le_refl _, fun _ _ => rfl⟩ : Below w.heap.size wr (wr.drewN m)), HUr.out.drewN m⟩
      rw [← hwc]
      clear hwc HH HUr c1
      have Hq := Lib.hid hq
      clear hq
      go_wp2
      go_loopw [9] (fun a wi => ∃ j : Nat, j ≤ k ∧ a = .int .i64 j ∧ Hid (∃ n, wi = wc.drewN n) ∧ Hid (∀ i, (h : i < out.length) → j ≤ i → 0 < q ∧ q < f out[i])) (fun a _ => (intOf a).toNat)
      case atStart => exact ⟨k, Nat.le_refl _, rfl, Lib.hid ⟨0, rfl⟩, Lib.hid fun i h hj => absurd h (by have := Hol.out; omega)⟩
      case round =>
        obtain ⟨j, hj, rfl, hwi, hgt⟩ := hrel
        have hGc : ∀ i, (h : i < out.length) → wc.cell? ⟨G, i, none⟩ = some (.int .i32 out[i]) := fun i h => by
          have := HC.out.1.cells (g := G) rfl i (.int .i32 out[i]) (by simp [h])
          rwa [Addr.add_mid, Nat.zero_add] at this
        have HG := Lib.hid hGc
        clear hGc
        by_cases hgo : 0 < q ∧ ∃ h : 0 < j, q < f (out[j - 1]'(by have := Hol.out; omega))
        · obtain ⟨hq0, hj0, hf1⟩ := hgo
          obtain ⟨j, rfl⟩ : ∃ i, j = i + 1 := ⟨j - 1, by omega⟩
          have hjl : j < out.length := by have := Hol.out; omega
          obtain ⟨y, hy⟩ : ∃ y, y = out[j] := ⟨_, rfl⟩
          have hf2 : q < f y := by rw [hy]; exact hf1
          have c2 : wr.cell? ⟨G, j, none⟩ = some (.int .i32 y) := by
            obtain ⟨n, hn⟩ := hwi.out
            have := HG.out j hjl
            rw [hn, hy]
            exact this
          have hUi : UcdIs wr p D := by obtain ⟨n, hn⟩ := hwi.out; rw [hn]; exact HC.out.2.2.drewN n
          have HUi := Lib.hid hUi
          have Hy := Lib.hid hy
          obtain ⟨fy, hfy⟩ : ∃ fy, fy = f y := ⟨_, rfl⟩
          rw [← hfy] at hf2
          have Hfy := Lib.hid hfy
          clear hf1 hy hUi hfy
          go_wp2_with fail
          refine (class_calls _ _ _ _ HUi.out).mono ?_
          rintro e w' ⟨rfl, m2, rfl⟩
          rw [← HF.out, ← Hfy.out]
          go_wp2
          go_roundw
          case rel =>
            refine ⟨j, by omega, rfl, Lib.hid ?_, Lib.hid fun i h hi => ?_⟩
            · obtain ⟨n, hn⟩ := hwi.out; exact ⟨n + m2, by rw [hn, World.drewN_drewN]⟩
            · rcases Nat.lt_or_ge i (j + 1) with h1 | h1
              · obtain rfl : i = j := by omega
                exact ⟨hq0, by rw [← Hy.out, ← Hfy.out]; exact hf2⟩
              · exact hgt.out i h h1
          case measure => (simp [intOf] <;> omega)
        · have hstop : (h : 0 < j) → ¬ (0 < q ∧ q < f (out[j - 1]'(by have := Hol.out; omega))) := fun h h2 => hgo ⟨h2.1, h, h2.2⟩
          have Hstop := Lib.hid hstop
          clear hgo hstop
          have hj2 : j ≤ out.length := by have := Hol.out; omega
          have HO : Hid (wr.ownsRow w.heap.size 21 1 (.slice (some ⟨G, 0, none⟩) k cap) k (out.map (Value.int .i32)) ∧ Below w.heap.size w wr ∧ UcdIs wr p D) := by
            obtain ⟨n, hn⟩ := hwi.out
            rw [hn]
            exact Lib.hid ⟨HC.out.1, HC.out.2.1.trans (⟨rfl, rfl, rfl, Nat.le_refl _, fun _ _ => rfl⟩ : Below w.heap.size wc (wc.drewN n)), HC.out.2.2.drewN n⟩
          have hsz : w.heap.size ≤ wr.heap.size := HO.out.2.1.size
          by_cases hq0 : 0 < q
          · by_cases hj0 : 0 < j
            · skip
              have hjl : j - 1 < out.length := by have := Hol.out; omega
              obtain ⟨y, hy⟩ : ∃ y, y = out[j - 1] := ⟨_, rfl⟩
              have hf2 : f y ≤ q := by have := Hstop.out hj0; rw [hy]; omega
              have c2 : wr.cell? ⟨G, j - 1, none⟩ = some (.int .i32 y) := by
                obtain ⟨n, hn⟩ := hwi.out
                have := HG.out (j - 1) hjl
                rw [hn, hy]
                exact this
              obtain ⟨fy, hfy⟩ : ∃ fy, fy = f y := ⟨_, rfl⟩
              rw [← hfy] at hf2
              have Hfy := Lib.hid hfy
              have g1 : IntKind.i64.wrap ((j : Int) - 1) = (j : Int) - 1 := IntWalk.i64_in _ (by omega)
              have g2 : ((j : Int) - 1).toNat = j - 1 := by omega
              have g3 : (0 : Int) ≤ (j : Int) - 1 := by omega
              have g4 : (1 : Int) ≤ (j : Int) := by omega
              have g5 : (j : Int) - 1 < (k : Int) := by omega
              clear hy hfy
              go_wp2_with fail
              refine (class_calls _ _ _ _ HO.out.2.2).mono ?_
              rintro e w' ⟨rfl, m2, rfl⟩
              rw [← HF.out, ← Hfy.out]
              have HO2 : Hid ((wr.drewN m2).ownsRow w.heap.size 21 1 (.slice (some ⟨G, 0, none⟩) k cap) k (out.map (Value.int .i32)) ∧ Below w.heap.size w (wr.drewN m2) ∧ UcdIs (wr.drewN m2) p D) :=
                Lib.hid ⟨HO.out.1, HO.out.2.1.trans (⟨rfl, rfl, rfl, Nat.le_refl _, fun _ _ => rfl⟩ : Below w.heap.size wr (wr.drewN m2)), HO.out.2.2.drewN m2⟩
              have hsz2 : w.heap.size ≤ (wr.drewN m2).heap.size := hsz
              obtain ⟨wd, hwd⟩ : ∃ wd, wd = wr.drewN m2 := ⟨_, rfl⟩
              rw [← hwd] at HO2 hsz2 ⊢
              clear hsz hwd g1 g2 g3 g4 g5 c2
              have hsz := hsz2
              go_wp2_with (at_builtin; refine wpList_append_own _ rfl _ _ 25 rfl w.heap.size 21 ie (.int .i32 0) 1 4 Tryd.underlying25 hie hze i1 i2 rfl (by decide) _ _ _ rfl (HO2.out.1.alloc _) ⟨wd.heap.size, 0, none⟩ 1 1 [.int .i32 x] rfl rfl ?c1 ?c2 ?c3 ?c4 ?c5 ?_)
              try case c1 => intro j u hu; rw [Addr.add_mid, cell_of_row _ _ _ _ _ _ (heap_alloc_new _ _)]; simpa using hu
              case c2 => first | rfl | (intro u hu; simp at hu; subst hu; rfl)
              case c3 => unfold maxLen; omega
              case c4 => omega
              case c5 => first | omega | (simp; omega)
              intro v' w2 hown2 hgrow2 _
              have hB2 : Below w.heap.size w w2 := (HO2.out.2.1.alloc hsz _).grown hgrow2 (by simp; omega) (fun k' hk' => (HO2.out.1.lt k' hk').1)
              obtain ⟨G2, cap2, curL, rfl, hG2, hcur, hcs, htake, hcap, hcapm⟩ := row_form hown2 (by omega)
              have HT := Lib.hid (And.intro hB2 (And.intro hcur (And.intro hcs (And.intro htake (And.intro hG2 hcapm)))))
              clear hB2 hown2 hgrow2 htake hG2 hcapm hcs
              have hcur' : w2.drew.heap[G2]? = some (.cells curL.toArray 21 (0, 0)) := hcur
              have e1 : IntKind.i64.wrap ((j : Int) + 1) = (j : Int) + 1 := IntWalk.i64_in _ (by omega)
              have e2 : (0 : Int) ≤ (j : Int) + 1 := by omega
              have e3 : ((j : Int) + 1).toNat = j + 1 := by omega
              have e4 : (j : Int) ≤ (k : Int) := by omega
              have e5 : (j : Int) ≤ (k : Int) + 1 := by omega
              have n1 : ¬ cap2 = j := by omega
              have hcl : ((out.drop j).map (Value.int .i32)).length = k - j := by have := Hol.out; simp; omega
              have hn : ((out.drop j).map (Value.int .i32)).length = Nat.min (k + 1 - j) (k + 1 - (j + 1)) := by rw [hcl]; show k - j = min (k + 1 - j) (k + 1 - (j + 1)); omega
              have hpos : ∀ (i : Nat) (v : Value), ((out.drop j).map (Value.int .i32))[i]? = some v → w2.drew.cell? ((⟨G2, j, none⟩ : Addr).add i) = some v := by
                intro i v hv
                rw [Addr.add_mid, cell_of_row _ _ _ _ _ _ hcur']
                have hil : j + i < out.length := by
                  have := (List.getElem?_eq_some_iff.1 hv).1
                  simp at this; omega
                have ht : (curL.take (k + 1))[j + i]? = (out.map (Value.int .i32) ++ [.int .i32 x])[j + i]? := congrArg (·[j + i]?) HT.out.2.2.2.1
                rw [List.getElem?_take_of_lt (by have := Hol.out; omega), List.getElem?_append_left (by simpa using hil)] at ht
                rw [← hv]
                simpa using ht
              have hfit : (j + 1) + ((out.drop j).map (Value.int .i32)).length ≤ curL.length := by rw [hcl]; have := HT.out.2.2.1; omega
              have hone : ∀ v ∈ (out.drop j).map (Value.int .i32), v.oneCell' = true := by
                intro v hv
                obtain ⟨y, _, rfl⟩ := List.mem_map.1 hv
                rfl
              have hsz1 : (Tryd.prog.info? 21).map (·.size) = some 1 := by kernel_rfl
              have hBd : Below w.heap.size w w2.drew := ⟨HT.out.1.os, HT.out.1.tape, HT.out.1.output, HT.out.1.size, HT.out.1.block⟩
              have K1 := Lib.hid (And.intro hcur' (And.intro hn (And.intro hpos (And.intro hfit (And.intro hone (And.intro hsz1 hBd))))))
              have HCL := Lib.hid hcl
              clear hcur' hn hpos hfit hone hsz1 hBd hcl hcur
              by_cases n2 : cap2 = j + 1
              · have n3 : (if cap2 = j + 1 then (some ⟨G2, 0, none⟩ : Option Addr) else some ⟨G2, j + 1, none⟩) = some ⟨G2, 0, none⟩ := if_pos n2
                have N2 := Lib.hid n2
                clear n2
                go_wp2
                go_region_law (refine step_copy_splice rfl _ _ 25 25 rfl 21 Tryd.underlying25 K1.out.2.2.2.2.2.1 (some ⟨G2, 0, none⟩) (some ⟨G2, j, none⟩) (k + 1 - (j + 1)) (cap2 - (j + 1)) (k + 1 - j) (cap2 - j) (by simp [Act.eval, Act.put]) (by simp [Act.eval, Act.put]) G2 (j + 1) curL 21 K1.out.1 ((out.drop j).map (Value.int .i32)) K1.out.2.1 (fun hp => absurd hp (by have h1 := HCL.out; have h2 := N2.out; rw [h1]; omega)) K1.out.2.2.2.1 K1.out.2.2.2.2.1 w.heap.size w K1.out.2.2.2.2.2.2 HT.out.2.2.2.2.1 ?_; intro w4 hg4 hb4)
                have hins := ins_row (I := Value.int .i32) (cur := curL) (out := out) (x := x) (j := j) hj2 (by have := Hol.out; have := HT.out.2.2.1; omega) (by rw [List.map_append, Hol.out]; exact HT.out.2.2.2.1)
                have hjc : j < (splice curL (j + 1) ((out.drop j).map (Value.int .i32))).toArray.size := by
                  rw [List.size_toArray, length_splice _ _ _ K1.out.2.2.2.1]; have := HT.out.2.2.1; omega
                have c4 : w4.cell? ⟨G2, j, none⟩ = some ((splice curL (j + 1) ((out.drop j).map (Value.int .i32))).toArray[j]) := by
                  rw [cell_of_row _ _ _ _ _ _ hg4.out]; exact Array.getElem?_eq_getElem hjc
                have f4 : w4.frozen? ⟨G2, j, none⟩ = false := frozen_of_row _ _ _ _ _ hg4.out
                obtain ⟨y4, hy4⟩ : ∃ y4, y4 = (splice curL (j + 1) ((out.drop j).map (Value.int .i32))).toArray[j] := ⟨_, rfl⟩
                rw [← hy4] at c4
                have HI := Lib.hid (And.intro hins hb4)
                clear hins hjc hb4 hy4
                go_wp2
                go_roundw
                case rel =>
                  refine ⟨k + 1, G2, cap2, by omega, by go_num, rfl, Lib.hid ⟨row_set hg4.out ?_ HT.out.2.2.2.2.1 (by omega) HT.out.2.2.2.2.2 ?_ ?_, HI.out.2.setCell (p := ⟨G2, j, none⟩) HT.out.2.2.2.2.1 _⟩⟩
                  · rw [length_splice _ _ _ K1.out.2.2.2.1]; exact HT.out.2.2.1
                  · have h1 := HI.out.1
                    rw [Hol.out] at h1
                    rw [h1, Htk.out, ins_at f x out j hj2 (fun i h hi => by rw [← Hq.out]; exact hgt.out i h hi) (fun h => by rw [← Hq.out]; exact Hstop.out h)]
                  · rw [List.length_map, ordL_length, List.length_take]; omega
                case measure => simp [intOf]; omega
              · have n4 := n2
                go_wp2
                go_region_law (refine step_copy_splice rfl _ _ 25 25 rfl 21 Tryd.underlying25 K1.out.2.2.2.2.2.1 (some ⟨G2, j + 1, none⟩) (some ⟨G2, j, none⟩) (k + 1 - (j + 1)) (cap2 - (j + 1)) (k + 1 - j) (cap2 - j) (by simp [Act.eval, Act.put]) (by simp [Act.eval, Act.put]) G2 (j + 1) curL 21 K1.out.1 ((out.drop j).map (Value.int .i32)) K1.out.2.1 (fun hp => ⟨rfl, _, rfl, K1.out.2.2.1⟩) K1.out.2.2.2.1 K1.out.2.2.2.2.1 w.heap.size w K1.out.2.2.2.2.2.2 HT.out.2.2.2.2.1 ?_; intro w4 hg4 hb4)
                have hins := ins_row (I := Value.int .i32) (cur := curL) (out := out) (x := x) (j := j) hj2 (by have := Hol.out; have := HT.out.2.2.1; omega) (by rw [List.map_append, Hol.out]; exact HT.out.2.2.2.1)
                have hjc : j < (splice curL (j + 1) ((out.drop j).map (Value.int .i32))).toArray.size := by
                  rw [List.size_toArray, length_splice _ _ _ K1.out.2.2.2.1]; have := HT.out.2.2.1; omega
                have c4 : w4.cell? ⟨G2, j, none⟩ = some ((splice curL (j + 1) ((out.drop j).map (Value.int .i32))).toArray[j]) := by
                  rw [cell_of_row _ _ _ _ _ _ hg4.out]; exact Array.getElem?_eq_getElem hjc
                have f4 : w4.frozen? ⟨G2, j, none⟩ = false := frozen_of_row _ _ _ _ _ hg4.out
                obtain ⟨y4, hy4⟩ : ∃ y4, y4 = (splice curL (j + 1) ((out.drop j).map (Value.int .i32))).toArray[j] := ⟨_, rfl⟩
                rw [← hy4] at c4
                have HI := Lib.hid (And.intro hins hb4)
                clear hins hjc hb4 hy4
                go_wp2
                go_roundw
                case rel =>
                  refine ⟨k + 1, G2, cap2, by omega, by go_num, rfl, Lib.hid ⟨row_set hg4.out ?_ HT.out.2.2.2.2.1 (by omega) HT.out.2.2.2.2.2 ?_ ?_, HI.out.2.setCell (p := ⟨G2, j, none⟩) HT.out.2.2.2.2.1 _⟩⟩
                  · rw [length_splice _ _ _ K1.out.2.2.2.1]; exact HT.out.2.2.1
                  · have h1 := HI.out.1
                    rw [Hol.out] at h1
                    rw [h1, Htk.out, ins_at f x out j hj2 (fun i h hi => by rw [← Hq.out]; exact hgt.out i h hi) (fun h => by rw [← Hq.out]; exact Hstop.out h)]
                  · rw [List.length_map, ordL_length, List.length_take]; omega
                case measure => simp [intOf]; omega
            · skip
              have hjz : decide (0 < j) = false := by simpa using hj0
              go_wp2_with (at_builtin; refine wpList_append_own _ rfl _ _ 25 rfl w.heap.size 21 ie (.int .i32 0) 1 4 Tryd.underlying25 hie hze i1 i2 rfl (by decide) _ _ _ rfl (HO.out.1.alloc _) ⟨wr.heap.size, 0, none⟩ 1 1 [.int .i32 x] rfl rfl ?c1 ?c2 ?c3 ?c4 ?c5 ?_)
              try case c1 => intro j u hu; rw [Addr.add_mid, cell_of_row _ _ _ _ _ _ (heap_alloc_new _ _)]; simpa using hu
              case c2 => first | rfl | (intro u hu; simp at hu; subst hu; rfl)
              case c3 => unfold maxLen; omega
              case c4 => omega
              case c5 => first | omega | (simp; omega)
              intro v' w2 hown2 hgrow2 _
              have hB2 : Below w.heap.size w w2 := (HO.out.2.1.alloc hsz _).grown hgrow2 (by simp; omega) (fun k' hk' => (HO.out.1.lt k' hk').1)
              obtain ⟨G2, cap2, curL, rfl, hG2, hcur, hcs, htake, hcap, hcapm⟩ := row_form hown2 (by omega)
              have HT := Lib.hid (And.intro hB2 (And.intro hcur (And.intro hcs (And.intro htake (And.intro hG2 hcapm)))))
              clear hB2 hown2 hgrow2 htake hG2 hcapm hcs
              have hcur' : w2.drew.heap[G2]? = some (.cells curL.toArray 21 (0, 0)) := hcur
              have e1 : IntKind.i64.wrap ((j : Int) + 1) = (j : Int) + 1 := IntWalk.i64_in _ (by omega)
              have e2 : (0 : Int) ≤ (j : Int) + 1 := by omega
              have e3 : ((j : Int) + 1).toNat = j + 1 := by omega
              have e4 : (j : Int) ≤ (k : Int) := by omega
              have e5 : (j : Int) ≤ (k : Int) + 1 := by omega
              have n1 : ¬ cap2 = j := by omega
              have hcl : ((out.drop j).map (Value.int .i32)).length = k - j := by have := Hol.out; simp; omega
              have hn : ((out.drop j).map (Value.int .i32)).length = Nat.min (k + 1 - j) (k + 1 - (j + 1)) := by rw [hcl]; show k - j = min (k + 1 - j) (k + 1 - (j + 1)); omega
              have hpos : ∀ (i : Nat) (v : Value), ((out.drop j).map (Value.int .i32))[i]? = some v → w2.drew.cell? ((⟨G2, j, none⟩ : Addr).add i) = some v := by
                intro i v hv
                rw [Addr.add_mid, cell_of_row _ _ _ _ _ _ hcur']
                have hil : j + i < out.length := by
                  have := (List.getElem?_eq_some_iff.1 hv).1
                  simp at this; omega
                have ht : (curL.take (k + 1))[j + i]? = (out.map (Value.int .i32) ++ [.int .i32 x])[j + i]? := congrArg (·[j + i]?) HT.out.2.2.2.1
                rw [List.getElem?_take_of_lt (by have := Hol.out; omega), List.getElem?_append_left (by simpa using hil)] at ht
                rw [← hv]
                simpa using ht
              have hfit : (j + 1) + ((out.drop j).map (Value.int .i32)).length ≤ curL.length := by rw [hcl]; have := HT.out.2.2.1; omega
              have hone : ∀ v ∈ (out.drop j).map (Value.int .i32), v.oneCell' = true := by
                intro v hv
                obtain ⟨y, _, rfl⟩ := List.mem_map.1 hv
                rfl
              have hsz1 : (Tryd.prog.info? 21).map (·.size) = some 1 := by kernel_rfl
              have hBd : Below w.heap.size w w2.drew := ⟨HT.out.1.os, HT.out.1.tape, HT.out.1.output, HT.out.1.size, HT.out.1.block⟩
              have K1 := Lib.hid (And.intro hcur' (And.intro hn (And.intro hpos (And.intro hfit (And.intro hone (And.intro hsz1 hBd))))))
              have HCL := Lib.hid hcl
              clear hcur' hn hpos hfit hone hsz1 hBd hcl hcur
              by_cases n2 : cap2 = j + 1
              · have n3 : (if cap2 = j + 1 then (some ⟨G2, 0, none⟩ : Option Addr) else some ⟨G2, j + 1, none⟩) = some ⟨G2, 0, none⟩ := if_pos n2
                have N2 := Lib.hid n2
                clear n2
                go_wp2
                go_region_law (refine step_copy_splice rfl _ _ 25 25 rfl 21 Tryd.underlying25 K1.out.2.2.2.2.2.1 (some ⟨G2, 0, none⟩) (some ⟨G2, j, none⟩) (k + 1 - (j + 1)) (cap2 - (j + 1)) (k + 1 - j) (cap2 - j) (by simp [Act.eval, Act.put]) (by simp [Act.eval, Act.put]) G2 (j + 1) curL 21 K1.out.1 ((out.drop j).map (Value.int .i32)) K1.out.2.1 (fun hp => absurd hp (by have h1 := HCL.out; have h2 := N2.out; rw [h1]; omega)) K1.out.2.2.2.1 K1.out.2.2.2.2.1 w.heap.size w K1.out.2.2.2.2.2.2 HT.out.2.2.2.2.1 ?_; intro w4 hg4 hb4)
                have hins := ins_row (I := Value.int .i32) (cur := curL) (out := out) (x := x) (j := j) hj2 (by have := Hol.out; have := HT.out.2.2.1; omega) (by rw [List.map_append, Hol.out]; exact HT.out.2.2.2.1)
                have hjc : j < (splice curL (j + 1) ((out.drop j).map (Value.int .i32))).toArray.size := by
                  rw [List.size_toArray, length_splice _ _ _ K1.out.2.2.2.1]; have := HT.out.2.2.1; omega
                have c4 : w4.cell? ⟨G2, j, none⟩ = some ((splice curL (j + 1) ((out.drop j).map (Value.int .i32))).toArray[j]) := by
                  rw [cell_of_row _ _ _ _ _ _ hg4.out]; exact Array.getElem?_eq_getElem hjc
                have f4 : w4.frozen? ⟨G2, j, none⟩ = false := frozen_of_row _ _ _ _ _ hg4.out
                obtain ⟨y4, hy4⟩ : ∃ y4, y4 = (splice curL (j + 1) ((out.drop j).map (Value.int .i32))).toArray[j] := ⟨_, rfl⟩
                rw [← hy4] at c4
                have HI := Lib.hid (And.intro hins hb4)
                clear hins hjc hb4 hy4
                go_wp2
                go_roundw
                case rel =>
                  refine ⟨k + 1, G2, cap2, by omega, by go_num, rfl, Lib.hid ⟨row_set hg4.out ?_ HT.out.2.2.2.2.1 (by omega) HT.out.2.2.2.2.2 ?_ ?_, HI.out.2.setCell (p := ⟨G2, j, none⟩) HT.out.2.2.2.2.1 _⟩⟩
                  · rw [length_splice _ _ _ K1.out.2.2.2.1]; exact HT.out.2.2.1
                  · have h1 := HI.out.1
                    rw [Hol.out] at h1
                    rw [h1, Htk.out, ins_at f x out j hj2 (fun i h hi => by rw [← Hq.out]; exact hgt.out i h hi) (fun h => by rw [← Hq.out]; exact Hstop.out h)]
                  · rw [List.length_map, ordL_length, List.length_take]; omega
                case measure => simp [intOf]; omega
              · have n4 := n2
                go_wp2
                go_region_law (refine step_copy_splice rfl _ _ 25 25 rfl 21 Tryd.underlying25 K1.out.2.2.2.2.2.1 (some ⟨G2, j + 1, none⟩) (some ⟨G2, j, none⟩) (k + 1 - (j + 1)) (cap2 - (j + 1)) (k + 1 - j) (cap2 - j) (by simp [Act.eval, Act.put]) (by simp [Act.eval, Act.put]) G2 (j + 1) curL 21 K1.out.1 ((out.drop j).map (Value.int .i32)) K1.out.2.1 (fun hp => ⟨rfl, _, rfl, K1.out.2.2.1⟩) K1.out.2.2.2.1 K1.out.2.2.2.2.1 w.heap.size w K1.out.2.2.2.2.2.2 HT.out.2.2.2.2.1 ?_; intro w4 hg4 hb4)
                have hins := ins_row (I := Value.int .i32) (cur := curL) (out := out) (x := x) (j := j) hj2 (by have := Hol.out; have := HT.out.2.2.1; omega) (by rw [List.map_append, Hol.out]; exact HT.out.2.2.2.1)
                have hjc : j < (splice curL (j + 1) ((out.drop j).map (Value.int .i32))).toArray.size := by
                  rw [List.size_toArray, length_splice _ _ _ K1.out.2.2.2.1]; have := HT.out.2.2.1; omega
                have c4 : w4.cell? ⟨G2, j, none⟩ = some ((splice curL (j + 1) ((out.drop j).map (Value.int .i32))).toArray[j]) := by
                  rw [cell_of_row _ _ _ _ _ _ hg4.out]; exact Array.getElem?_eq_getElem hjc
                have f4 : w4.frozen? ⟨G2, j, none⟩ = false := frozen_of_row _ _ _ _ _ hg4.out
                obtain ⟨y4, hy4⟩ : ∃ y4, y4 = (splice curL (j + 1) ((out.drop j).map (Value.int .i32))).toArray[j] := ⟨_, rfl⟩
                rw [← hy4] at c4
                have HI := Lib.hid (And.intro hins hb4)
                clear hins hjc hb4 hy4
                go_wp2
                go_roundw
                case rel =>
                  refine ⟨k + 1, G2, cap2, by omega, by go_num, rfl, Lib.hid ⟨row_set hg4.out ?_ HT.out.2.2.2.2.1 (by omega) HT.out.2.2.2.2.2 ?_ ?_, HI.out.2.setCell (p := ⟨G2, j, none⟩) HT.out.2.2.2.2.1 _⟩⟩
                  · rw [length_splice _ _ _ K1.out.2.2.2.1]; exact HT.out.2.2.1
                  · have h1 := HI.out.1
                    rw [Hol.out] at h1
                    rw [h1, Htk.out, ins_at f x out j hj2 (fun i h hi => by rw [← Hq.out]; exact hgt.out i h hi) (fun h => by rw [← Hq.out]; exact Hstop.out h)]
                  · rw [List.length_map, ordL_length, List.length_take]; omega
                case measure => simp [intOf]; omega
          · skip
            have hqd : decide (0 < q) = false := by simpa using hq0
            go_wp2_with (at_builtin; refine wpList_append_own _ rfl _ _ 25 rfl w.heap.size 21 ie (.int .i32 0) 1 4 Tryd.underlying25 hie hze i1 i2 rfl (by decide) _ _ _ rfl (HO.out.1.alloc _) ⟨wr.heap.size, 0, none⟩ 1 1 [.int .i32 x] rfl rfl ?c1 ?c2 ?c3 ?c4 ?c5 ?_)
            try case c1 => intro j u hu; rw [Addr.add_mid, cell_of_row _ _ _ _ _ _ (heap_alloc_new _ _)]; simpa using hu
            case c2 => first | rfl | (intro u hu; simp at hu; subst hu; rfl)
            case c3 => unfold maxLen; omega
            case c4 => omega
            case c5 => first | omega | (simp; omega)
            intro v' w2 hown2 hgrow2 _
            have hB2 : Below w.heap.size w w2 := (HO.out.2.1.alloc hsz _).grown hgrow2 (by simp; omega) (fun k' hk' => (HO.out.1.lt k' hk').1)
            obtain ⟨G2, cap2, curL, rfl, hG2, hcur, hcs, htake, hcap, hcapm⟩ := row_form hown2 (by omega)
            have HT := Lib.hid (And.intro hB2 (And.intro hcur (And.intro hcs (And.intro htake (And.intro hG2 hcapm)))))
            clear hB2 hown2 hgrow2 htake hG2 hcapm hcs
            have hcur' : w2.drew.heap[G2]? = some (.cells curL.toArray 21 (0, 0)) := hcur
            have e1 : IntKind.i64.wrap ((j : Int) + 1) = (j : Int) + 1 := IntWalk.i64_in _ (by omega)
            have e2 : (0 : Int) ≤ (j : Int) + 1 := by omega
            have e3 : ((j : Int) + 1).toNat = j + 1 := by omega
            have e4 : (j : Int) ≤ (k : Int) := by omega
            have e5 : (j : Int) ≤ (k : Int) + 1 := by omega
            have n1 : ¬ cap2 = j := by omega
            have hcl : ((out.drop j).map (Value.int .i32)).length = k - j := by have := Hol.out; simp; omega
            have hn : ((out.drop j).map (Value.int .i32)).length = Nat.min (k + 1 - j) (k + 1 - (j + 1)) := by rw [hcl]; show k - j = min (k + 1 - j) (k + 1 - (j + 1)); omega
            have hpos : ∀ (i : Nat) (v : Value), ((out.drop j).map (Value.int .i32))[i]? = some v → w2.drew.cell? ((⟨G2, j, none⟩ : Addr).add i) = some v := by
              intro i v hv
              rw [Addr.add_mid, cell_of_row _ _ _ _ _ _ hcur']
              have hil : j + i < out.length := by
                have := (List.getElem?_eq_some_iff.1 hv).1
                simp at this; omega
              have ht : (curL.take (k + 1))[j + i]? = (out.map (Value.int .i32) ++ [.int .i32 x])[j + i]? := congrArg (·[j + i]?) HT.out.2.2.2.1
              rw [List.getElem?_take_of_lt (by have := Hol.out; omega), List.getElem?_append_left (by simpa using hil)] at ht
              rw [← hv]
              simpa using ht
            have hfit : (j + 1) + ((out.drop j).map (Value.int .i32)).length ≤ curL.length := by rw [hcl]; have := HT.out.2.2.1; omega
            have hone : ∀ v ∈ (out.drop j).map (Value.int .i32), v.oneCell' = true := by
              intro v hv
              obtain ⟨y, _, rfl⟩ := List.mem_map.1 hv
              rfl
            have hsz1 : (Tryd.prog.info? 21).map (·.size) = some 1 := by kernel_rfl
            have hBd : Below w.heap.size w w2.drew := ⟨HT.out.1.os, HT.out.1.tape, HT.out.1.output, HT.out.1.size, HT.out.1.block⟩
            have K1 := Lib.hid (And.intro hcur' (And.intro hn (And.intro hpos (And.intro hfit (And.intro hone (And.intro hsz1 hBd))))))
            have HCL := Lib.hid hcl
            clear hcur' hn hpos hfit hone hsz1 hBd hcl hcur
            by_cases n2 : cap2 = j + 1
            · have n3 : (if cap2 = j + 1 then (some ⟨G2, 0, none⟩ : Option Addr) else some ⟨G2, j + 1, none⟩) = some ⟨G2, 0, none⟩ := if_pos n2
              have N2 := Lib.hid n2
              clear n2
              go_wp2
              go_region_law (refine step_copy_splice rfl _ _ 25 25 rfl 21 Tryd.underlying25 K1.out.2.2.2.2.2.1 (some ⟨G2, 0, none⟩) (some ⟨G2, j, none⟩) (k + 1 - (j + 1)) (cap2 - (j + 1)) (k + 1 - j) (cap2 - j) (by simp [Act.eval, Act.put]) (by simp [Act.eval, Act.put]) G2 (j + 1) curL 21 K1.out.1 ((out.drop j).map (Value.int .i32)) K1.out.2.1 (fun hp => absurd hp (by have h1 := HCL.out; have h2 := N2.out; rw [h1]; omega)) K1.out.2.2.2.1 K1.out.2.2.2.2.1 w.heap.size w K1.out.2.2.2.2.2.2 HT.out.2.2.2.2.1 ?_; intro w4 hg4 hb4)
              have hins := ins_row (I := Value.int .i32) (cur := curL) (out := out) (x := x) (j := j) hj2 (by have := Hol.out; have := HT.out.2.2.1; omega) (by rw [List.map_append, Hol.out]; exact HT.out.2.2.2.1)
              have hjc : j < (splice curL (j + 1) ((out.drop j).map (Value.int .i32))).toArray.size := by
                rw [List.size_toArray, length_splice _ _ _ K1.out.2.2.2.1]; have := HT.out.2.2.1; omega
              have c4 : w4.cell? ⟨G2, j, none⟩ = some ((splice curL (j + 1) ((out.drop j).map (Value.int .i32))).toArray[j]) := by
                rw [cell_of_row _ _ _ _ _ _ hg4.out]; exact Array.getElem?_eq_getElem hjc
              have f4 : w4.frozen? ⟨G2, j, none⟩ = false := frozen_of_row _ _ _ _ _ hg4.out
              obtain ⟨y4, hy4⟩ : ∃ y4, y4 = (splice curL (j + 1) ((out.drop j).map (Value.int .i32))).toArray[j] := ⟨_, rfl⟩
              rw [← hy4] at c4
              have HI := Lib.hid (And.intro hins hb4)
              clear hins hjc hb4 hy4
              go_wp2
              go_roundw
              case rel =>
                refine ⟨k + 1, G2, cap2, by omega, by go_num, rfl, Lib.hid ⟨row_set hg4.out ?_ HT.out.2.2.2.2.1 (by omega) HT.out.2.2.2.2.2 ?_ ?_, HI.out.2.setCell (p := ⟨G2, j, none⟩) HT.out.2.2.2.2.1 _⟩⟩
                · rw [length_splice _ _ _ K1.out.2.2.2.1]; exact HT.out.2.2.1
                · have h1 := HI.out.1
                  rw [Hol.out] at h1
                  rw [h1, Htk.out, ins_at f x out j hj2 (fun i h hi => by rw [← Hq.out]; exact hgt.out i h hi) (fun h => by rw [← Hq.out]; exact Hstop.out h)]
                · rw [List.length_map, ordL_length, List.length_take]; omega
              case measure => simp [intOf]; omega
            · have n4 := n2
              go_wp2
              go_region_law (refine step_copy_splice rfl _ _ 25 25 rfl 21 Tryd.underlying25 K1.out.2.2.2.2.2.1 (some ⟨G2, j + 1, none⟩) (some ⟨G2, j, none⟩) (k + 1 - (j + 1)) (cap2 - (j + 1)) (k + 1 - j) (cap2 - j) (by simp [Act.eval, Act.put]) (by simp [Act.eval, Act.put]) G2 (j + 1) curL 21 K1.out.1 ((out.drop j).map (Value.int .i32)) K1.out.2.1 (fun hp => ⟨rfl, _, rfl, K1.out.2.2.1⟩) K1.out.2.2.2.1 K1.out.2.2.2.2.1 w.heap.size w K1.out.2.2.2.2.2.2 HT.out.2.2.2.2.1 ?_; intro w4 hg4 hb4)
              have hins := ins_row (I := Value.int .i32) (cur := curL) (out := out) (x := x) (j := j) hj2 (by have := Hol.out; have := HT.out.2.2.1; omega) (by rw [List.map_append, Hol.out]; exact HT.out.2.2.2.1)
              have hjc : j < (splice curL (j + 1) ((out.drop j).map (Value.int .i32))).toArray.size := by
                rw [List.size_toArray, length_splice _ _ _ K1.out.2.2.2.1]; have := HT.out.2.2.1; omega
              have c4 : w4.cell? ⟨G2, j, none⟩ = some ((splice curL (j + 1) ((out.drop j).map (Value.int .i32))).toArray[j]) := by
                rw [cell_of_row _ _ _ _ _ _ hg4.out]; exact Array.getElem?_eq_getElem hjc
              have f4 : w4.frozen? ⟨G2, j, none⟩ = false := frozen_of_row _ _ _ _ _ hg4.out
              obtain ⟨y4, hy4⟩ : ∃ y4, y4 = (splice curL (j + 1) ((out.drop j).map (Value.int .i32))).toArray[j] := ⟨_, rfl⟩
              rw [← hy4] at c4
              have HI := Lib.hid (And.intro hins hb4)
              clear hins hjc hb4 hy4
              go_wp2
              go_roundw
              case rel =>
                refine ⟨k + 1, G2, cap2, by omega, by go_num, rfl, Lib.hid ⟨row_set hg4.out ?_ HT.out.2.2.2.2.1 (by omega) HT.out.2.2.2.2.2 ?_ ?_, HI.out.2.setCell (p := ⟨G2, j, none⟩) HT.out.2.2.2.2.1 _⟩⟩
                · rw [length_splice _ _ _ K1.out.2.2.2.1]; exact HT.out.2.2.1
                · have h1 := HI.out.1
                  rw [Hol.out] at h1
                  rw [h1, Htk.out, ins_at f x out j hj2 (fun i h hi => by rw [← Hq.out]; exact hgt.out i h hi) (fun h => by rw [← Hq.out]; exact Hstop.out h)]
                · rw [List.length_map, ordL_length, List.length_take]; omega
              case measure => simp [intOf]; omega
    · have hd : decide (k < xs.length) = false := by simpa using hlt
      obtain rfl : k = xs.length := by omega
      go_wp2
      go_ret
      refine ⟨_, rfl, ?_, hH.out.2⟩
      have h := hH.out.1
      rw [List.take_length] at h
      refine RdR.of_owns (base := w.heap.size) ?_ (by rw [ordL_length]; exact hl)
      rw [ordL_length]; exact h
end Go.Proofs.YtejikiebhjiocaaDoor
