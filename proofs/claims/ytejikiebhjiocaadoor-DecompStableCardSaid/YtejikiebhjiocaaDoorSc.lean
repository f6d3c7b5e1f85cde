/- stage.Build. -/
import Derived.Test.YtejikiebhjiocaaDoorSb
import Derived.Test.YtejikiebhjiocaaDoorMp
import Derived.Test.YtejikiebhjiocaaDoorSd
import Derived.Test.YtejikiebhjiocaaDoorSe
import Derived.Laws.AppendOwn
import Derived.Laws.IdiomCopy
import Derived.Deep.RegionLaw
set_option linter.unusedVariables false
set_option linter.unusedSimpArgs false
namespace Go.Proofs.YtejikiebhjiocaaDoor
open Go.RowKit

theorem take_succ_e (es : List (Int × Int)) (k : Nat) (h : k < es.length) : es.take (k + 1) = es.take k ++ [(es[k].1, es[k].2)] := by rw [List.take_succ_eq_append_getElem h]

attribute [local go_sem ↓] rdBlock_eq rdOwn_eq mkBlocks_eq

set_option maxRecDepth 100000 in
set_option maxHeartbeats 4000000 in
theorem sbuild_calls (v : Value) (es : List (Int × Int)) (w : World) (hv : RdEnt w v es) (hes : ∀ e ∈ es, -9223372036854775808 ≤ e.2 ∧ e.2 ≤ 9223372036854775807) :
    Calls Tryd.prog 41 #[v] w fun e w' => ∃ p : Nat, e = .returned (.pointer (some ⟨p, 0, none⟩)) ∧ w.heap.size ≤ p ∧ Below w.heap.size w w' ∧ TableIs w' p (fun x => lastV es (x : Int)) := by
  obtain ⟨A0, c0, rfl, hlen, hrd⟩ := hv
  go_enter Tryd.func41, Tryd.ntmps41
  go_wp2
  have hO : Own1 (w.alloc (.cells Tryd.zeroCells109 109)) (w.heap.size + 1) w.heap.size (fun _ => none) :=
    ⟨⟨_, heap_alloc_new _ _, Tryd.zeroCells109_size, fun n hn => zeroOwn_at n hn⟩, (by intro n b g hn hf; cases hf), (by intro n m b g g' _ _ hf; cases hf)⟩
  have hB : Below w.heap.size w (w.alloc (.cells Tryd.zeroCells109 109)) := (Below.refl _ _).alloc (Nat.le_refl _) _
  go_loopg [16] (es.length + 1) (fun gk v16 wr => ∃ (k : Nat) (f : Nat → Option (Nat × (Nat → Int))), v16 = .int .i64 k ∧ k ≤ es.length ∧ Hid (Own1 wr (w.heap.size + 1) w.heap.size f ∧ Below w.heap.size w wr ∧ w.heap.size + 1 ≤ wr.heap.size ∧ (∀ x, x < 1114112 → valAt f x = lastV (es.take k) x) ∧ gk = es.length - k + 1))
  case atStart => exact ⟨0, _, rfl, Nat.zero_le _, hO, hB, by simp, fun x _ => rfl, by omega⟩
  case round =>
    clear hO hB
    obtain ⟨k, f, rfl, hk, hH⟩ := hrel
    by_cases hlt : k < es.length
    · obtain ⟨hO, hB, hsz, hval, hgk⟩ := hH.out
      obtain ⟨g0, rfl, hcc, hcv⟩ := hrd k hlt
      have gc := (hB.cell (p := ⟨g0, k * 2, none⟩) (World.block_lt_of_cell? _ _ hcc)).trans hcc
      have gv := (hB.cell (p := ⟨g0, k * 2 + 1, none⟩) (World.block_lt_of_cell? _ _ hcv)).trans hcv
      obtain ⟨c, hc⟩ : ∃ c, c = es[k].1 := ⟨_, rfl⟩
      obtain ⟨u, hu⟩ : ∃ u, u = es[k].2 := ⟨_, rfl⟩
      rw [← hc] at gc
      rw [← hu] at gv
      have Hv := Lib.hid hval
      have Hg := Lib.hid hgk
      have Hcu := Lib.hid (And.intro hc hu)
      clear hval hgk hc hu hH hcc hcv hrd
      by_cases hin : 0 ≤ c ∧ c ≤ 1114111
      · obtain ⟨x, rfl⟩ := Int.eq_ofNat_of_zero_le hin.1
        have hx : x ≤ 1114111 := by omega
        have hx0 : (0 : Int) ≤ (x : Int) := by omega
        have hx1 : (x : Int) ≤ 1114111 := by omega
        have hd : x / 256 < 4352 := by omega
        have hm : x % 256 < 256 := by omega
        have hq0 : (0 : Int) ≤ (x : Int) / 256 := by omega
        have hq1 : (x : Int) / 256 < 4352 := by omega
        have hq2 : ((x : Int) / 256).toNat = x / 256 := by omega
        have hr0 : (0 : Int) ≤ (x : Int) % 256 := by omega
        have hr1 : (x : Int) % 256 < 256 := by omega
        have hr2 : ((x : Int) % 256).toNat = x % 256 := by omega
        clear hin
        obtain ⟨W1, hW1⟩ : ∃ W1, W1 = wr.alloc (.cells #[.int .i32 (x : Int), .int .i64 u] 75) := ⟨_, rfl⟩
        have hB1 : Below wr.heap.size wr W1 := by rw [hW1]; exact (Below.refl _ _).alloc (Nat.le_refl _) _
        have hO1 := hO.below hB1 (Nat.le_refl _)
        have hs1 : W1.heap.size = wr.heap.size + 1 := by rw [hW1]; simp
        have e0 : W1.cell? ⟨wr.heap.size, 0, none⟩ = some (.int .i32 (x : Int)) := by rw [hW1, cell_of_row _ _ _ _ _ _ (heap_alloc_new _ _)]; rfl
        have e1 : W1.cell? ⟨wr.heap.size, 1, none⟩ = some (.int .i64 u) := by rw [hW1, cell_of_row _ _ _ _ _ _ (heap_alloc_new _ _)]; rfl
        obtain ⟨A, hA1, hA2, hA3⟩ := hO1.row
        have hp : W1.cell? ⟨w.heap.size, x / 256, none⟩ = some (ptrOf (f (x / 256))) := by
          rw [cell_of_row _ _ _ _ _ _ hA1]; exact hA3 _ hd
        have hfz : W1.frozen? ⟨w.heap.size, x / 256, none⟩ = false := frozen_of_row _ _ _ _ _ hA1
        go_upto_region 6 with (go_at_call 42; refine (in_calls _ _).mono ?_; rintro e w' ⟨rfl, rfl⟩)
        rw [← hW1]
        cases hf : f (x / 256) with
        | none =>
          rw [hf] at hp
          simp only [ptrOf] at hp
          obtain ⟨W2, hW2⟩ : ∃ W2, W2 = W1.alloc (.cells Tryd.zeroCells83 83) := ⟨_, rfl⟩
          have hB2 : Below W1.heap.size W1 W2 := by rw [hW2]; exact (Below.refl _ _).alloc (Nat.le_refl _) _
          have hO2 := hO1.below hB2 (Nat.le_refl _)
          have d0 := (hB2.cell (p := ⟨wr.heap.size, 0, none⟩) (World.block_lt_of_cell? _ _ e0)).trans e0
          have d1 := (hB2.cell (p := ⟨wr.heap.size, 1, none⟩) (World.block_lt_of_cell? _ _ e1)).trans e1
          have dp := (hB2.cell (p := ⟨w.heap.size, x / 256, none⟩) (World.block_lt_of_cell? _ _ hp)).trans hp
          have df : W2.frozen? ⟨w.heap.size, x / 256, none⟩ = false := (hB2.frozen (p := ⟨w.heap.size, x / 256, none⟩) (World.block_lt_of_cell? _ _ hp)).trans hfz
          obtain ⟨W3, hW3⟩ : ∃ W3, W3 = W2.setCell ⟨w.heap.size, x / 256, none⟩ (.pointer (some ⟨W1.heap.size, 0, none⟩)) := ⟨_, rfl⟩
          obtain ⟨f3, hf3e⟩ : ∃ f3 : Nat → Option (Nat × (Nat → Int)), f3 = fun n => if n = x / 256 then some (W1.heap.size, fun _ => 0) else f n := ⟨_, rfl⟩
          have hO3 : Own1 W3 (w.heap.size + 1) w.heap.size f3 := by
            rw [hW3, hW2, hf3e]; exact hO1.fresh (World.block_lt_of_cell? _ _ hp) (by omega) x hd hf
          have hf3 : f3 (x / 256) = some (W1.heap.size, fun _ => 0) := by rw [hf3e]; simp
          have hv3 : ∀ y, y < 1114112 → valAt f3 y = lastV (es.take k) y := by
            intro y hy
            rw [← Hv.out y hy, hf3e]
            unfold valAt
            by_cases e : y / 256 = x / 256
            · simp only [e, if_true, hf]
            · simp only [e, if_false]
          have hB3 : Below w.heap.size w W3 := by
            rw [hW3]; exact ((hB.trans ((hB1.mono (by omega)).trans (hB2.mono (by omega)))).setCell (p := ⟨w.heap.size, x / 256, none⟩) (Nat.le_refl _) _)
          have hne : wr.heap.size ≠ w.heap.size := by omega
          have c0' : W3.cell? ⟨wr.heap.size, 0, none⟩ = some (.int .i32 (x : Int)) := by
            rw [hW3]; exact (World.cell?_of_block (w := W2) (heap_setCell_other _ _ _ _ hne)).trans d0
          have c1' : W3.cell? ⟨wr.heap.size, 1, none⟩ = some (.int .i64 u) := by
            rw [hW3]; exact (World.cell?_of_block (w := W2) (heap_setCell_other _ _ _ _ hne)).trans d1
          have hs3 : w.heap.size + 1 ≤ W3.heap.size := by
            have h1 := hB2.size
            have h2 : W3.heap.size = W2.heap.size := by rw [hW3]; simp [World.setCell]
            omega
          clear hA1 hA2 hA3 hf3e
          have HW := Lib.hid hW1
          have Hs := Lib.hid hs1
          have Hf := Lib.hid hf
          have HW2 := Lib.hid hW2
          have HW3 := Lib.hid hW3
          have Hf3 := Lib.hid hf3
          clear hW1 hs1 hf hW2 hW3 hf3 hne
          go_upto_region 9 with (fail)
          rw [← HW2.out]
          clear e0 e1 hp hfz
          go_upto_region 10 with (fail)
          rw [← HW3.out]
          clear d0 d1 dp df
          obtain ⟨b, g, hbg, hf3⟩ : ∃ b g, b = W1.heap.size ∧ f3 (x / 256) = some (b, g) := ⟨_, _, rfl, Hf3.out⟩
          rw [← hbg]
          clear hbg
          have hO4 : Own1 ((W3.setCell ⟨b, x % 256, none⟩ (.int .i64 u)).drew) (w.heap.size + 1) w.heap.size (putAt f3 x b g u) := (hO3.put x hd hf3 u).below (Below.refl _ _).drew (Nat.le_refl _)
          have hB4 : Below w.heap.size w ((W3.setCell ⟨b, x % 256, none⟩ (.int .i64 u)).drew) := (hB3.setCell (p := ⟨b, x % 256, none⟩) (by have := (hO3.blk _ _ _ hd hf3).1; simp; omega) _).drew
          have hv4 : ∀ y, y < 1114112 → valAt (putAt f3 x b g u) y = lastV (es.take (k + 1)) y := by
            intro y hy
            rw [valAt_put _ _ _ _ _ (by intro j; rw [hf3]), hv3 y hy, take_succ_e _ _ hlt, lastV_snoc, ← Hcu.out.1, ← Hcu.out.2]
            by_cases e : x = y
            · rw [if_pos e, if_pos (by omega)]
            · rw [if_neg e, if_neg (by omega)]
          have bc : W3.cell? ⟨b, x % 256, none⟩ = some (.int .i64 (g (x % 256))) := by
            rw [cell_of_row _ _ _ _ _ _ (hO3.blk _ _ _ hd hf3).2.2]; exact blockOf_at _ _ hm
          have bf : W3.frozen? ⟨b, x % 256, none⟩ = false := frozen_of_row _ _ _ _ _ (hO3.blk _ _ _ hd hf3).2.2
          have hs4 : w.heap.size + 1 ≤ ((W3.setCell ⟨b, x % 256, none⟩ (.int .i64 u)).drew).heap.size := by
            have : ((W3.setCell ⟨b, x % 256, none⟩ (.int .i64 u)).drew).heap.size = W3.heap.size := (by simp [World.setCell, World.drew, -World.drew_eq])
            omega
          have Hv4 := Lib.hid hv4
          have HO4 := Lib.hid hO4
          clear hv4 hv3 hf3 hO4 hO3 hB3
          go_region
          go_wp2
          go_roundg (es.length - k)
          case measure => rw [Hg.out]; omega
          case rel => exact ⟨k + 1, _, by go_num, by omega, HO4.out, hB4, hs4, Hv4.out, by omega⟩
        | some bg =>
          obtain ⟨b, g⟩ := bg
          rw [hf] at hp
          simp only [ptrOf] at hp
          obtain ⟨W3, hW3⟩ : ∃ W3, W3 = W1 := ⟨_, rfl⟩
          obtain ⟨f3, hf3e⟩ : ∃ f3, f3 = f := ⟨_, rfl⟩
          rw [← hf3e] at hf hO1
          rw [← hW3] at hp hfz e0 e1 hO1 ⊢
          have hO3 := hO1
          have hf3 := hf
          have hv3 : ∀ y, y < 1114112 → valAt f3 y = lastV (es.take k) y := by rw [hf3e]; exact Hv.out
          have hB3 : Below w.heap.size w W3 := by rw [hW3]; exact hB.trans (hB1.mono (by omega))
          have hs3 : w.heap.size + 1 ≤ W3.heap.size := by rw [hW3]; omega
          clear hA1 hA2 hA3 hf3e hf hO1
          have HW := Lib.hid hW1
          have Hs := Lib.hid hs1
          have HW3 := Lib.hid hW3
          have Hf3 := Lib.hid hf3
          have Hv3 := Lib.hid hv3
          clear hW1 hs1 hW3 hf3 hv3
          go_upto_region 10 with (fail)
          clear hp hfz
          have hf3 := Hf3.out
          have hv3 := Hv3.out
          have hO4 : Own1 ((W3.setCell ⟨b, x % 256, none⟩ (.int .i64 u)).drew) (w.heap.size + 1) w.heap.size (putAt f3 x b g u) := (hO3.put x hd hf3 u).below (Below.refl _ _).drew (Nat.le_refl _)
          have hB4 : Below w.heap.size w ((W3.setCell ⟨b, x % 256, none⟩ (.int .i64 u)).drew) := (hB3.setCell (p := ⟨b, x % 256, none⟩) (by have := (hO3.blk _ _ _ hd hf3).1; simp; omega) _).drew
          have hv4 : ∀ y, y < 1114112 → valAt (putAt f3 x b g u) y = lastV (es.take (k + 1)) y := by
            intro y hy
            rw [valAt_put _ _ _ _ _ (by intro j; rw [hf3]), hv3 y hy, take_succ_e _ _ hlt, lastV_snoc, ← Hcu.out.1, ← Hcu.out.2]
            by_cases e : x = y
            · rw [if_pos e, if_pos (by omega)]
            · rw [if_neg e, if_neg (by omega)]
          have bc : W3.cell? ⟨b, x % 256, none⟩ = some (.int .i64 (g (x % 256))) := by
            rw [cell_of_row _ _ _ _ _ _ (hO3.blk _ _ _ hd hf3).2.2]; exact blockOf_at _ _ hm
          have bf : W3.frozen? ⟨b, x % 256, none⟩ = false := frozen_of_row _ _ _ _ _ (hO3.blk _ _ _ hd hf3).2.2
          have hs4 : w.heap.size + 1 ≤ ((W3.setCell ⟨b, x % 256, none⟩ (.int .i64 u)).drew).heap.size := by
            have : ((W3.setCell ⟨b, x % 256, none⟩ (.int .i64 u)).drew).heap.size = W3.heap.size := (by simp [World.setCell, World.drew, -World.drew_eq])
            omega
          have Hv4 := Lib.hid hv4
          have HO4 := Lib.hid hO4
          clear hv4 hv3 hf3 hO4 hO3 hB3
          go_region
          go_wp2
          go_roundg (es.length - k)
          case measure => rw [Hg.out]; omega
          case rel => exact ⟨k + 1, _, by go_num, by omega, HO4.out, hB4, hs4, Hv4.out, by omega⟩
      · go_wp2_with (go_at_call 42; refine (in_calls _ _).mono ?_; rintro e w' ⟨rfl, rfl⟩)
        go_roundg (es.length - k)
        case measure => rw [Hg.out]; omega
        case rel =>
          refine ⟨k + 1, f, by go_num, by omega, hO.below ((Below.refl _ _).alloc (Nat.le_refl _) _) (Nat.le_refl _), hB.alloc hB.size _, by simp; omega, ?_, by omega⟩
          intro y hy
          rw [Hv.out y hy, take_succ_e _ _ hlt, lastV_snoc, ← Hcu.out.1, if_neg (by omega)]
    · obtain ⟨hO, hB, hsz, hval, hgk⟩ := hH.out
      have hke : k = es.length := by omega
      rw [hke, List.take_length] at hval
      have Hv := Lib.hid hval
      clear hval hgk hke hH hrd
      rename World => wq
      have hmm := @run_makeMap Tryd.prog
      obtain ⟨A, hA1, hA2, hA3⟩ := hO.row
      obtain ⟨WM, hWM⟩ : ∃ WM, WM = (wq.alloc (.cells Tryd.zeroCells87 87)).alloc (.map #[] 0) := ⟨_, rfl⟩
      have hB2 : Below wq.heap.size wq WM := by rw [hWM]; exact ((Below.refl _ _).alloc (Nat.le_refl _) _).alloc (by simp) _
      have hAM : (rdOwn ⟨w.heap.size, 0, none⟩).run Tryd.prog WM = .ok (.agg A) WM := rdOwn_of ((hB2.block _ (Array.getElem?_eq_some_iff.1 hA1).1).trans hA1) hA2
      go_upto_region 15 with (fail)
      rw [← hWM]
      clear hmm
      have hT0 : Tab2 WM wq.heap.size (wq.heap.size + 1) (wq.heap.size + 2) f 0 (.slice none 0 0) [] (fun _ => none) := by rw [hWM]; exact Tab2.start wq f
      have hWs : wq.heap.size + 2 ≤ WM.heap.size := by rw [hWM]; simp
      have HWM := Lib.hid hWM
      have HT0 := Lib.hid (And.intro hT0 (And.intro hWs hB2))
      have HA := Lib.hid (And.intro hA1 (And.intro hA2 (And.intro hA3 (And.intro hO (And.intro hB hsz)))))
      clear hWM hT0 hWs hB2 hA1 hA2 hA3 hO hB hsz
      go_wp2
      go_loopg [9, 51] 4353 (fun gk v9 v51 w2 => ∃ (k : Nat) (em : Int) (bv : Value) (bs : List (Nat → Int)) (S : Value → Option Value), v9 = .int .i64 em ∧ v51 = .int .i64 k ∧ k ≤ 4352 ∧ Hid (Tab2 w2 wq.heap.size (wq.heap.size + 1) (wq.heap.size + 2) f k bv bs S ∧ Below wq.heap.size wq w2 ∧ wq.heap.size + 2 ≤ w2.heap.size ∧ bs.length ≤ k ∧ (em = -1 ∨ ∃ (i : Nat) (h : i < bs.length), em = (i : Int) ∧ Alike256 bs[i] (fun _ => 0)) ∧ gk = 4352 - k + 1))
      case atStart => exact ⟨0, -1, _, [], _, rfl, rfl, by omega, HT0.out.1, HT0.out.2.2, HT0.out.2.1, by simp, .inl rfl, by omega⟩
      case round =>
        clear HT0 HWM hAM
        obtain ⟨n, em, bv, bs, S, rfl, rfl, hn, hH⟩ := hrel
        by_cases hln : n < 4352
        · obtain ⟨hT2, hB3, hs3, hbl, hem, hgk⟩ := hH.out
          clear hH
          have hix : ∀ W, (Instr.index 109 (.agg A) (.int .i64 (n : Int))).run Tryd.prog W = .ok (ptrOf (f n)) W := by
            exact run_indexOwn HA.out.2.1 hln (HA.out.2.2.1 n hln)
          have Hg := Lib.hid hgk
          have Hem := Lib.hid hem
          clear hgk hem
          obtain ⟨Ab, cb, rfl⟩ : ∃ Ab cb, bv = .slice Ab bs.length cb := by
            rcases hT2.row.2 with ⟨h1, h2⟩ | ⟨g, cap, cur, h1, _⟩
            · exact ⟨none, 0, by rw [h1, h2]⟩
            · exact ⟨_, _, h1⟩
          obtain ⟨T, hT⟩ := hT2.tab
          have hcb : wr.cell? ⟨wq.heap.size, 4352, none⟩ = some (.slice Ab bs.length cb) := by rw [cell_of_row _ _ _ _ _ _ hT.1]; exact hT.2.2.1
          have hfb : wr.frozen? ⟨wq.heap.size, 4352, none⟩ = false := frozen_of_row _ _ _ _ _ hT.1
          have hcn : wr.cell? ⟨wq.heap.size, n, none⟩ = some (.int .i64 0) := by rw [cell_of_row _ _ _ _ _ _ hT.1]; exact hT.2.2.2.1 n (Nat.le_refl _) hln
          have hfn : wr.frozen? ⟨wq.heap.size, n, none⟩ = false := frozen_of_row _ _ _ _ _ hT.1
          clear hT
          have hn0 : (0 : Int) ≤ (n : Int) := by omega
          have hn1 : (n : Int) < 4352 := by omega
          have HT2 := Lib.hid hT2
          clear hT2
          cases hf : f n with
          | none =>
            have hz : Alike256 (fun _ => 0) (gOf (f n)) := by rw [hf]; exact fun j _ => rfl
            rw [hf] at hix
            simp only [ptrOf] at hix
            go_upto_region 19 with (fail)
            by_cases he : em < 0
            · have hrow1 := HT2.out.row
              have hbs : ∀ W, (mkBlocks #[(0, .agg Tryd.zeroCells83)]).run Tryd.prog W = .ok (.slice (some ⟨W.heap.size, 0, none⟩) 1 1) (W.alloc (.cells (blockOf fun _ => 0) 83)) := fun W => by
                rw [zeroBlock]; exact mkBlocks_of _ W
              have hno : some wq.heap.size ≠ (Value.slice Ab bs.length cb).ownBlock := fun e => by have := (hrow1.lt _ e.symm).1; omega
              have hlo : ∀ k, (Value.slice Ab bs.length cb).ownBlock = some k → wq.heap.size ≤ k := fun k e => by have := (hrow1.lt _ e).1; omega
              clear hix hcn hfn
              go_upto_region 21 with (fail)
              go_upto_region 22 with (at_builtin; refine wpList_appendBlock rfl _ _ rfl hrow1 (by omega) hs3 rfl (fun _ => 0) rfl ?_; intro g4 cap4 w4 hA4; have hc5 := hA4.grow.cell hcb hno; have hf5 := (hA4.grow.frozen_far ⟨wq.heap.size, 4352, none⟩ (World.block_lt_of_cell? _ _ hcb) hno).trans hfb)
              have HT4 := HT2.out.grow (by omega) (by omega) (by omega) (by omega) (fun _ => 0) hA4.grow hA4.own
              have HB4 : Below wq.heap.size wq (w4.setCell ⟨wq.heap.size, 4352, none⟩ (.slice (some ⟨g4, 0, none⟩) (bs.length + 1) cap4)) := (hB3.grown hA4.grow (by omega) hlo).setCell (p := ⟨wq.heap.size, 4352, none⟩) (Nat.le_refl _) _
              have hs4 : wq.heap.size + 2 ≤ (w4.setCell ⟨wq.heap.size, 4352, none⟩ (.slice (some ⟨g4, 0, none⟩) (bs.length + 1) cap4)).heap.size := by
                have := hA4.size
                have e : (w4.setCell ⟨wq.heap.size, 4352, none⟩ (.slice (some ⟨g4, 0, none⟩) (bs.length + 1) cap4)).heap.size = w4.heap.size := by simp [World.setCell]
                omega
              obtain ⟨W4, hW4⟩ : ∃ W4, W4 = w4.setCell ⟨wq.heap.size, 4352, none⟩ (.slice (some ⟨g4, 0, none⟩) (bs.length + 1) cap4) := ⟨_, rfl⟩
              rw [← hW4] at HT4 HB4 hs4 ⊢
              have HW4 := Lib.hid hW4
              have HC := Lib.hid (And.intro hc5 hf5)
              clear hW4 hc5 hf5 hcb hfb
              have hi4 : bs.length < (bs ++ [fun _ => 0]).length := by simp
              have ha4 : Alike256 (bs ++ [fun _ => 0])[bs.length] (gOf (f n)) := by
                have e : (bs ++ [fun _ => (0 : Int)])[bs.length] = fun _ => 0 := by simp
                rw [e]; exact hz
              obtain ⟨T4, hT4⟩ := HT4.tab
              have hc4 : W4.cell? ⟨wq.heap.size, n, none⟩ = some (.int .i64 0) := by rw [cell_of_row _ _ _ _ _ _ hT4.1]; exact hT4.2.2.2.1 n (Nat.le_refl _) hln
              have hf4 : W4.frozen? ⟨wq.heap.size, n, none⟩ = false := frozen_of_row _ _ _ _ _ hT4.1
              have Ht := Lib.hid (HT4.fill hln (by omega) (by omega) bs.length hi4 ha4)
              have HB5 : Below wq.heap.size wq (W4.setCell ⟨wq.heap.size, n, none⟩ (.int .i64 (bs.length : Int))) := HB4.setCell (p := ⟨wq.heap.size, n, none⟩) (Nat.le_refl _) _
              have hs5 : wq.heap.size + 2 ≤ (W4.setCell ⟨wq.heap.size, n, none⟩ (.int .i64 (bs.length : Int))).heap.size := by simpa [World.setCell] using hs4
              have HX := Lib.hid (And.intro HB5 hs5)
              clear hT4 HT4 HB4 hs4 HB5 hs5
              go_wp2
              go_roundg (4352 - n)
              case measure => rw [Hg.out]; omega
              case rel => exact ⟨n + 1, _, _, _, _, rfl, by go_num, by omega, Ht.out, HX.out.1, HX.out.2, by simp; omega, (.inr ⟨bs.length, hi4, rfl, fun j hj => (ha4 j hj).trans (hz j hj).symm⟩), by omega⟩
            · have hem := Hem.out
              obtain ⟨i4, hi4, hi4e, ha0⟩ := hem.resolve_left (by omega)
              subst hi4e
              have ha4 : Alike256 bs[i4] (gOf (f n)) := fun j hj => (ha0 j hj).trans (hz j hj)
              clear hix
              go_upto_region 22 with (fail)
              obtain ⟨W4, hW4⟩ : ∃ W4, W4 = wr := ⟨_, rfl⟩
              have HT4 := HT2.out
              have HB4 := hB3
              have hs4 := hs3
              rw [← hW4] at HT4 HB4 hs4 ⊢
              have HW4 := Lib.hid hW4
              clear hW4 hcn hfn hcb hfb hB3 hs3
              obtain ⟨T4, hT4⟩ := HT4.tab
              have hc4 : W4.cell? ⟨wq.heap.size, n, none⟩ = some (.int .i64 0) := by rw [cell_of_row _ _ _ _ _ _ hT4.1]; exact hT4.2.2.2.1 n (Nat.le_refl _) hln
              have hf4 : W4.frozen? ⟨wq.heap.size, n, none⟩ = false := frozen_of_row _ _ _ _ _ hT4.1
              have Ht := Lib.hid (HT4.fill hln (by omega) (by omega) i4 hi4 ha4)
              have HB5 : Below wq.heap.size wq (W4.setCell ⟨wq.heap.size, n, none⟩ (.int .i64 (i4 : Int))) := HB4.setCell (p := ⟨wq.heap.size, n, none⟩) (Nat.le_refl _) _
              have hs5 : wq.heap.size + 2 ≤ (W4.setCell ⟨wq.heap.size, n, none⟩ (.int .i64 (i4 : Int))).heap.size := by simpa [World.setCell] using hs4
              have HX := Lib.hid (And.intro HB5 hs5)
              clear hT4 HT4 HB4 hs4 HB5 hs5
              go_wp2
              go_roundg (4352 - n)
              case measure => rw [Hg.out]; omega
              case rel => exact ⟨n + 1, i4, _, _, _, rfl, by go_num, by omega, Ht.out, HX.out.1, HX.out.2, by omega, (.inr ⟨i4, hi4, rfl, ha0⟩), by omega⟩
          | some bg =>
            obtain ⟨b, g⟩ := bg
            rw [hf] at hix
            simp only [ptrOf] at hix
            have hgI : InI64 g := fun j hj => by
              have h1 := Hv.out (n * 256 + j) (by omega)
              unfold valAt at h1
              rw [show (n * 256 + j) / 256 = n by omega, hf, show (n * 256 + j) % 256 = j by omega] at h1
              simp only at h1
              rw [h1]
              exact lastV_range es hes _
            have hbO := HA.out.2.2.2.1.blk n b g hln hf
            have hbk : wr.heap[b]? = some (.cells (blockOf g) 83 (0, 0)) := (hB3.block _ (Array.getElem?_eq_some_iff.1 hbO.2.2).1).trans hbO.2.2
            have hbl2 : b < wq.heap.size := (Array.getElem?_eq_some_iff.1 hbO.2.2).1
            have hld : (rdBlock ⟨b, 0, none⟩).run Tryd.prog wr = .ok (.agg (blockOf g)) wr := rdBlock_of hbk
            obtain ⟨r, hr, hri⟩ := eql_blocks g (fun _ => 0) hgI (fun j _ => by show _ ≤ (0 : Int) ∧ (0 : Int) ≤ _; omega) wr
            have hr' : (Op.equalIn 10000 83 (.agg (blockOf g)) (.agg Tryd.zeroCells83)).run Tryd.prog wr = .ok r wr := by rw [zeroBlock]; exact hr
            have Hri := Lib.hid hri
            clear hr hri hbO
            cases r with
            | true =>
              have hz : Alike256 (fun _ => 0) (gOf (f n)) := by rw [hf]; exact fun j hj => ((Hri.out.1 rfl) j hj).symm
              go_upto_region 19 with (fail)
              by_cases he : em < 0
              · have hrow1 := HT2.out.row
                have hbs : ∀ W, (mkBlocks #[(0, .agg Tryd.zeroCells83)]).run Tryd.prog W = .ok (.slice (some ⟨W.heap.size, 0, none⟩) 1 1) (W.alloc (.cells (blockOf fun _ => 0) 83)) := fun W => by
                  rw [zeroBlock]; exact mkBlocks_of _ W
                have hno : some wq.heap.size ≠ (Value.slice Ab bs.length cb).ownBlock := fun e => by have := (hrow1.lt _ e.symm).1; omega
                have hlo : ∀ k, (Value.slice Ab bs.length cb).ownBlock = some k → wq.heap.size ≤ k := fun k e => by have := (hrow1.lt _ e).1; omega
                clear hix hcn hfn
                go_upto_region 21 with (fail)
                go_upto_region 22 with (at_builtin; refine wpList_appendBlock rfl _ _ rfl hrow1 (by omega) hs3 rfl (fun _ => 0) rfl ?_; intro g4 cap4 w4 hA4; have hc5 := hA4.grow.cell hcb hno; have hf5 := (hA4.grow.frozen_far ⟨wq.heap.size, 4352, none⟩ (World.block_lt_of_cell? _ _ hcb) hno).trans hfb)
                have HT4 := HT2.out.grow (by omega) (by omega) (by omega) (by omega) (fun _ => 0) hA4.grow hA4.own
                have HB4 : Below wq.heap.size wq (w4.setCell ⟨wq.heap.size, 4352, none⟩ (.slice (some ⟨g4, 0, none⟩) (bs.length + 1) cap4)) := (hB3.grown hA4.grow (by omega) hlo).setCell (p := ⟨wq.heap.size, 4352, none⟩) (Nat.le_refl _) _
                have hs4 : wq.heap.size + 2 ≤ (w4.setCell ⟨wq.heap.size, 4352, none⟩ (.slice (some ⟨g4, 0, none⟩) (bs.length + 1) cap4)).heap.size := by
                  have := hA4.size
                  have e : (w4.setCell ⟨wq.heap.size, 4352, none⟩ (.slice (some ⟨g4, 0, none⟩) (bs.length + 1) cap4)).heap.size = w4.heap.size := by simp [World.setCell]
                  omega
                obtain ⟨W4, hW4⟩ : ∃ W4, W4 = w4.setCell ⟨wq.heap.size, 4352, none⟩ (.slice (some ⟨g4, 0, none⟩) (bs.length + 1) cap4) := ⟨_, rfl⟩
                rw [← hW4] at HT4 HB4 hs4 ⊢
                have HW4 := Lib.hid hW4
                have HC := Lib.hid (And.intro hc5 hf5)
                clear hW4 hc5 hf5 hcb hfb
                have hi4 : bs.length < (bs ++ [fun _ => 0]).length := by simp
                have ha4 : Alike256 (bs ++ [fun _ => 0])[bs.length] (gOf (f n)) := by
                  have e : (bs ++ [fun _ => (0 : Int)])[bs.length] = fun _ => 0 := by simp
                  rw [e]; exact hz
                obtain ⟨T4, hT4⟩ := HT4.tab
                have hc4 : W4.cell? ⟨wq.heap.size, n, none⟩ = some (.int .i64 0) := by rw [cell_of_row _ _ _ _ _ _ hT4.1]; exact hT4.2.2.2.1 n (Nat.le_refl _) hln
                have hf4 : W4.frozen? ⟨wq.heap.size, n, none⟩ = false := frozen_of_row _ _ _ _ _ hT4.1
                have Ht := Lib.hid (HT4.fill hln (by omega) (by omega) bs.length hi4 ha4)
                have HB5 : Below wq.heap.size wq (W4.setCell ⟨wq.heap.size, n, none⟩ (.int .i64 (bs.length : Int))) := HB4.setCell (p := ⟨wq.heap.size, n, none⟩) (Nat.le_refl _) _
                have hs5 : wq.heap.size + 2 ≤ (W4.setCell ⟨wq.heap.size, n, none⟩ (.int .i64 (bs.length : Int))).heap.size := by simpa [World.setCell] using hs4
                have HX := Lib.hid (And.intro HB5 hs5)
                clear hT4 HT4 HB4 hs4 HB5 hs5
                go_wp2
                go_roundg (4352 - n)
                case measure => rw [Hg.out]; omega
                case rel => exact ⟨n + 1, _, _, _, _, rfl, by go_num, by omega, Ht.out, HX.out.1, HX.out.2, by simp; omega, (.inr ⟨bs.length, hi4, rfl, fun j hj => (ha4 j hj).trans (hz j hj).symm⟩), by omega⟩
              · have hem := Hem.out
                obtain ⟨i4, hi4, hi4e, ha0⟩ := hem.resolve_left (by omega)
                subst hi4e
                have ha4 : Alike256 bs[i4] (gOf (f n)) := fun j hj => (ha0 j hj).trans (hz j hj)
                clear hix
                go_upto_region 22 with (fail)
                obtain ⟨W4, hW4⟩ : ∃ W4, W4 = wr := ⟨_, rfl⟩
                have HT4 := HT2.out
                have HB4 := hB3
                have hs4 := hs3
                rw [← hW4] at HT4 HB4 hs4 ⊢
                have HW4 := Lib.hid hW4
                clear hW4 hcn hfn hcb hfb hB3 hs3
                obtain ⟨T4, hT4⟩ := HT4.tab
                have hc4 : W4.cell? ⟨wq.heap.size, n, none⟩ = some (.int .i64 0) := by rw [cell_of_row _ _ _ _ _ _ hT4.1]; exact hT4.2.2.2.1 n (Nat.le_refl _) hln
                have hf4 : W4.frozen? ⟨wq.heap.size, n, none⟩ = false := frozen_of_row _ _ _ _ _ hT4.1
                have Ht := Lib.hid (HT4.fill hln (by omega) (by omega) i4 hi4 ha4)
                have HB5 : Below wq.heap.size wq (W4.setCell ⟨wq.heap.size, n, none⟩ (.int .i64 (i4 : Int))) := HB4.setCell (p := ⟨wq.heap.size, n, none⟩) (Nat.le_refl _) _
                have hs5 : wq.heap.size + 2 ≤ (W4.setCell ⟨wq.heap.size, n, none⟩ (.int .i64 (i4 : Int))).heap.size := by simpa [World.setCell] using hs4
                have HX := Lib.hid (And.intro HB5 hs5)
                clear hT4 HT4 HB4 hs4 HB5 hs5
                go_wp2
                go_roundg (4352 - n)
                case measure => rw [Hg.out]; omega
                case rel => exact ⟨n + 1, i4, _, _, _, rfl, by go_num, by omega, Ht.out, HX.out.1, HX.out.2, by omega, (.inr ⟨i4, hi4, rfl, ha0⟩), by omega⟩
            | false =>
              obtain ⟨lx, hlx⟩ := blockKey g hgI
              have hlk := IsMap.run_lookup (P := Tryd.prog) (t := 110) (e := 3) (z := .int .i64 0) blockKeyed Tryd.underlying110 (fun w => by kernel_rfl) HT2.out.map hlx true
              go_upto_region 23 with (fail)
              clear hix
              cases hS : S (.agg (blockOf g)) with
              | some v =>
                rw [hS] at hlk
                simp only [if_true, Option.getD_some, Option.isSome_some] at hlk
                obtain ⟨i4, g', hi4, rfl, hxe, hal⟩ := HT2.out.has _ _ hS
                have ha4 : Alike256 bs[i4] (gOf (f n)) := by
                  have hgg : Alike256 g' g := by simp only [Value.agg.injEq] at hxe; exact blockOf_inj hxe.symm
                  rw [hf]
                  exact fun j hj => (hal j hj).trans (hgg j hj)
                clear hxe hal
                go_upto_region 28 with (fail)
                obtain ⟨W4, hW4⟩ : ∃ W4, W4 = wr := ⟨_, rfl⟩
                have HT4 := HT2.out
                have HB4 := hB3
                have hs4 := hs3
                rw [← hW4] at HT4 HB4 hs4 ⊢
                have HW4 := Lib.hid hW4
                clear hW4 hcn hfn hcb hfb hB3 hs3 hlk hld hr'
                obtain ⟨T4, hT4⟩ := HT4.tab
                have hc4 : W4.cell? ⟨wq.heap.size, n, none⟩ = some (.int .i64 0) := by rw [cell_of_row _ _ _ _ _ _ hT4.1]; exact hT4.2.2.2.1 n (Nat.le_refl _) hln
                have hf4 : W4.frozen? ⟨wq.heap.size, n, none⟩ = false := frozen_of_row _ _ _ _ _ hT4.1
                have Ht := Lib.hid (HT4.fill hln (by omega) (by omega) i4 hi4 ha4)
                have HB5 : Below wq.heap.size wq (W4.setCell ⟨wq.heap.size, n, none⟩ (.int .i64 (i4 : Int))) := HB4.setCell (p := ⟨wq.heap.size, n, none⟩) (Nat.le_refl _) _
                have hs5 : wq.heap.size + 2 ≤ (W4.setCell ⟨wq.heap.size, n, none⟩ (.int .i64 (i4 : Int))).heap.size := by simpa [World.setCell] using hs4
                have HX := Lib.hid (And.intro HB5 hs5)
                clear hT4 HT4 HB4 hs4 HB5 hs5
                go_wp2
                go_roundg (4352 - n)
                case measure => rw [Hg.out]; omega
                case rel => exact ⟨n + 1, em, _, _, _, rfl, by go_num, by omega, Ht.out, HX.out.1, HX.out.2, by omega, Hem.out, by omega⟩
              | none =>
                rw [hS] at hlk
                simp only [if_true, Option.getD_none, Option.isSome_none] at hlk
                obtain ⟨w5, hup, hm5, hg5⟩ := IsMap.run_update (P := Tryd.prog) (t := 110) (e := 3) blockKeyed Tryd.underlying110 HT2.out.map hlx (.int .i64 (bs.length : Int))
                go_upto_region 25 with (fail)
                clear hlk
                go_upto_region 27 with (fail)
                have hsee := HT2.out.see (by omega) (by omega) hg5 hm5
                have hrow5 : w5.drew.ownsRow (wq.heap.size + 2) 83 256 (.slice Ab bs.length cb) bs.length (flatB bs) := hsee.2
                have hno : some wq.heap.size ≠ (Value.slice Ab bs.length cb).ownBlock := fun e => by have := (hsee.2.lt _ e.symm).1; omega
                have hlo : ∀ k, (Value.slice Ab bs.length cb).ownBlock = some k → wq.heap.size ≤ k := fun k e => by have := (hsee.2.lt _ e).1; omega
                have hlt5 : wq.heap.size < w5.heap.size := by have := hg5.size; omega
                have hnm : some wq.heap.size ≠ some (wq.heap.size + 1) := by simp
                have hcb5 : w5.drew.cell? ⟨wq.heap.size, 4352, none⟩ = some (.slice Ab bs.length cb) := (hg5.cell (a := ⟨wq.heap.size, 4352, none⟩) hcb hnm)
                have hfb5 : w5.drew.frozen? ⟨wq.heap.size, 4352, none⟩ = false := (hg5.frozen_far ⟨wq.heap.size, 4352, none⟩ (World.block_lt_of_cell? _ _ hcb) hnm).trans hfb
                have hbk5 : w5.heap[b]? = some (.cells (blockOf g) 83 (0, 0)) := (hg5.block _ (Array.getElem?_eq_some_iff.1 hbk).1 (by simp; omega)).trans hbk
                have hld5 : (rdBlock ⟨b, 0, none⟩).run Tryd.prog w5.drew = .ok (.agg (blockOf g)) w5.drew := rdBlock_of (w := w5.drew) hbk5
                have hbs := mkBlocks_of g
                have hcb6 : (w5.drew.alloc (.cells (blockOf g) 83)).cell? ⟨wq.heap.size, 4352, none⟩ = some (.slice Ab bs.length cb) :=
                  (World.cell?_of_block (w := w5.drew) (Below.heap_alloc w5.drew _ _ hlt5)).trans hcb5
                have hcb7 : w5.cell? ⟨wq.heap.size, 4352, none⟩ = some (.slice Ab bs.length cb) := hcb5
                have hld7 : (rdBlock ⟨b, 0, none⟩).run Tryd.prog w5 = .ok (.agg (blockOf g)) w5 := rdBlock_of (w := w5) hbk5
                have hs5' : wq.heap.size + 2 ≤ w5.drew.heap.size := by have := hg5.size; show wq.heap.size + 2 ≤ w5.heap.size; omega
                clear hcb hfb hld hr' hcn hfn hup
                go_region_law (refine step_appendBlock (W1 := w5.drew) rfl _ _ rfl hrow5 (by omega) hs5' (by simp [Act.eval, Act.put]) g (by simp [Act.eval, Act.put]) ?_; intro g4 cap4 w4 hA4; have hc5 := hA4.grow.cell hcb5 hno; have hf5 := (hA4.grow.frozen_far ⟨wq.heap.size, 4352, none⟩ (World.block_lt_of_cell? _ _ hcb5) hno).trans hfb5)
                all_goals (
                  have hg45 : w5.grownBy w4 (Value.slice Ab bs.length cb).ownBlock := ⟨hA4.grow.os, hA4.grow.tape, hA4.grow.output, hA4.grow.size, hA4.grow.block⟩
                  have HT4 := HT2.out.both (by omega) (by omega) (by omega) (by omega) g hg5 hm5 hg45 hA4.own
                  have HB4 : Below wq.heap.size wq (w4.setCell ⟨wq.heap.size, 4352, none⟩ (.slice (some ⟨g4, 0, none⟩) (bs.length + 1) cap4)) := ((hB3.grown hg5 (by omega) (fun k hk => by cases hk; omega)).grown hg45 (by omega) hlo).setCell (p := ⟨wq.heap.size, 4352, none⟩) (Nat.le_refl _) _
                  have hs4 : wq.heap.size + 2 ≤ (w4.setCell ⟨wq.heap.size, 4352, none⟩ (.slice (some ⟨g4, 0, none⟩) (bs.length + 1) cap4)).heap.size := by
                    have := hg45.size
                    have := hg5.size
                    have e : (w4.setCell ⟨wq.heap.size, 4352, none⟩ (.slice (some ⟨g4, 0, none⟩) (bs.length + 1) cap4)).heap.size = w4.heap.size := by simp [World.setCell]
                    omega
                  obtain ⟨W4, hW4⟩ : ∃ W4, W4 = w4.setCell ⟨wq.heap.size, 4352, none⟩ (.slice (some ⟨g4, 0, none⟩) (bs.length + 1) cap4) := ⟨_, rfl⟩
                  rw [← hW4] at HT4 HB4 hs4 ⊢
                  have HW4 := Lib.hid hW4
                  have HC := Lib.hid (And.intro hc5 hf5)
                  clear hW4 hc5 hf5 hcb5 hfb5 hcb6 hcb7 hld5 hld7 hbs
                  have hi4 : bs.length < (bs ++ [g]).length := by simp
                  have ha4 : Alike256 (bs ++ [g])[bs.length] (gOf (f n)) := by
                    have e : (bs ++ [g])[bs.length] = g := by simp
                    rw [e, hf]; exact fun j _ => rfl
                  obtain ⟨T4, hT4⟩ := HT4.tab
                  have hc4 : W4.cell? ⟨wq.heap.size, n, none⟩ = some (.int .i64 0) := by rw [cell_of_row _ _ _ _ _ _ hT4.1]; exact hT4.2.2.2.1 n (Nat.le_refl _) hln
                  have hf4 : W4.frozen? ⟨wq.heap.size, n, none⟩ = false := frozen_of_row _ _ _ _ _ hT4.1
                  have Ht := Lib.hid (HT4.fill hln (by omega) (by omega) bs.length hi4 ha4)
                  have HB5 : Below wq.heap.size wq (W4.setCell ⟨wq.heap.size, n, none⟩ (.int .i64 (bs.length : Int))) := HB4.setCell (p := ⟨wq.heap.size, n, none⟩) (Nat.le_refl _) _
                  have hs5 : wq.heap.size + 2 ≤ (W4.setCell ⟨wq.heap.size, n, none⟩ (.int .i64 (bs.length : Int))).heap.size := by simpa [World.setCell] using hs4
                  have HX := Lib.hid (And.intro HB5 hs5)
                  clear hT4 HT4 HB4 hs4 HB5 hs5
                  go_wp2
                  go_roundg (4352 - n)
                  case measure => rw [Hg.out]; omega
                  case rel => exact ⟨n + 1, em, _, _, _, rfl, by go_num, by omega, Ht.out, HX.out.1, HX.out.2, by simp; omega, (Hem.out.imp id fun ⟨i, hi, h1, h2⟩ => ⟨i, by simp; omega, h1, by rw [List.getElem_append_left hi]; exact h2⟩), by omega⟩)
        · obtain ⟨hT2, hB3, hs3, hbl, hem, hgk⟩ := hH.out
          have hne : n = 4352 := by omega
          subst hne
          obtain ⟨Ab, cb, rfl⟩ : ∃ Ab cb, bv = .slice Ab bs.length cb := by
            rcases hT2.row.2 with ⟨h1, h2⟩ | ⟨g, cap, cur, h1, _⟩
            · exact ⟨none, 0, by rw [h1, h2]⟩
            · exact ⟨_, _, h1⟩
          have hend : TableIs wr wq.heap.size (fun x => lastV es (x : Int)) := hT2.tableIs Hv.out
          have hbe : Below w.heap.size w wr := HA.out.2.2.2.2.1.trans (hB3.mono (by have := HA.out.2.2.2.2.2; omega))
          have hle : w.heap.size ≤ wq.heap.size := by have := HA.out.2.2.2.2.2; omega
          clear hT2 hB3 hs3 hbl hem hgk hH
          go_wp2
          go_ret
          exact ⟨wq.heap.size, rfl, hle, hbe, hend⟩
end Go.Proofs.YtejikiebhjiocaaDoor
