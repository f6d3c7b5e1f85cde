/- ucd.digit, ucd.entry: the numbers of an entry. -/
import Derived.Test.YtejikiebhjiocaaDoorTx
import Derived.Test.YtejikiebhjiocaaDoorShelf
import Derived.Test.YtejikiebhjiocaaDoorProg
import Derived.Below
import Derived.Deep.Draws
import Derived.OwnWalk
import Derived.Tactics
import Derived.WalkKit
import Derived.KernelRfl
import Derived.RowKit3
import Derived.Deep.LoopGhost
import Derived.Deep.QuietTactic
import Derived.BigQuiet
import Derived.Deep.RegionWith
import Derived.RegionTactic
import Derived.BigRegion
import Derived.Deep.Cut
import Derived.Lib.Hide
import Derived.Laws.Rows
import Derived.RangeFuncBox
import Derived.WalkMore
import Derived.Outline
set_option linter.unusedVariables false
set_option linter.unusedSimpArgs false
namespace Go.Proofs.YtejikiebhjiocaaDoor
open Go.RowKit

/-- What a digit tells (ucd.digit). -/
def digU (x : Int) : Int := if 97 ≤ x then (x - 97) + 10 else (x - 48) % 256

theorem digit_calls (x : Int) (h0 : 0 ≤ x) (h1 : x ≤ 255) (w : World) : Calls Tryd.prog 78 #[.int .u8 x] w fun e w' => e = .returned (.int .i32 (digU x)) ∧ w = w' := by
  unfold digU
  by_cases h : 97 ≤ x
  · go_enter Tryd.func78, Tryd.ntmps78
    go_wp2
    go_ret
    refine ⟨?_, rfl⟩
    rfl
  · go_enter Tryd.func78, Tryd.ntmps78
    go_wp2
    go_ret
    refine ⟨?_, rfl⟩
    rfl

/-- A number with one digit more. -/
def pushU (a : Int) (x : UInt8) : Int := Go.bits .or .i32 (wrap32 (a * 16)) (digU x.toNat)
/-- The numbers of an entry (ucd.entry's loop), from number k on. -/
def entU : List UInt8 → Nat → Int → Int → Int → Int × Int × Int
  | [], _, a, b, c => (a, b, c)
  | x :: xs, k, a, b, c => if x = 32 then (if k = 2 then (a, b, c) else entU xs (k + 1) a b c)
    else if k = 0 then entU xs k (pushU a x) b c else if k = 1 then entU xs k a (pushU b x) c else entU xs k a b (pushU c x)

/-- A row of three numbers in block B. -/
def Three (W : World) (B : Nat) (a b c : Int) : Prop := W.heap[B]? = some (.cells #[.int .i32 a, .int .i32 b, .int .i32 c] 73 (0, 0))
theorem Three.lt {W : World} {B : Nat} {a b c : Int} (h : Three W B a b c) : B < W.heap.size := (Array.getElem?_eq_some_iff.1 h).1
theorem Three.cell0 {W : World} {B : Nat} {a b c : Int} (h : Three W B a b c) : W.cell? ⟨B, 0, none⟩ = some (.int .i32 a) := by simp [World.cell?, show W.heap[B]? = _ from h]
theorem Three.cell1 {W : World} {B : Nat} {a b c : Int} (h : Three W B a b c) : W.cell? ⟨B, 1, none⟩ = some (.int .i32 b) := by simp [World.cell?, show W.heap[B]? = _ from h]
theorem Three.cell2 {W : World} {B : Nat} {a b c : Int} (h : Three W B a b c) : W.cell? ⟨B, 2, none⟩ = some (.int .i32 c) := by simp [World.cell?, show W.heap[B]? = _ from h]
theorem Three.frozen {W : World} {B : Nat} {a b c : Int} (h : Three W B a b c) (i : Nat) : W.frozen? ⟨B, i, none⟩ = false := by simp [World.frozen?, show W.heap[B]? = _ from h]
theorem Three.setAt {W : World} {B : Nat} {a b c : Int} (h : Three W B a b c) (i : Nat) (v : Value) : (W.setCell ⟨B, i, none⟩ v).heap[B]? = some (.cells (#[Value.int .i32 a, .int .i32 b, .int .i32 c].setIfInBounds i v) 73 (0, 0)) := by
  obtain ⟨hlt, hk⟩ := Array.getElem?_eq_some_iff.1 h
  show (W.heap.modify B _)[B]? = _
  rw [Array.getElem?_eq_getElem (by rw [Array.size_modify]; exact hlt), Array.getElem_modify_self, hk]
  rfl
theorem Three.set0 {W : World} {B : Nat} {a b c : Int} (h : Three W B a b c) (x : Int) : Three (W.setCell ⟨B, 0, none⟩ (.int .i32 x)) B x b c := h.setAt 0 _
theorem Three.set1 {W : World} {B : Nat} {a b c : Int} (h : Three W B a b c) (x : Int) : Three (W.setCell ⟨B, 1, none⟩ (.int .i32 x)) B a x c := h.setAt 1 _
theorem Three.set2 {W : World} {B : Nat} {a b c : Int} (h : Three W B a b c) (x : Int) : Three (W.setCell ⟨B, 2, none⟩ (.int .i32 x)) B a b x := h.setAt 2 _
theorem Three.drew {W : World} {B : Nat} {a b c : Int} (h : Three W B a b c) : Three W.drew B a b c := h

theorem cut_calls (s : List UInt8) (w : World) (hs : s.length ≤ 9223372036854775807) :
    Calls Tryd.prog 77 #[.string (txt s), .string ⟨#[33]⟩] w fun e w' => e = .returned (.tuple #[.string (txt (Lib.trimSuffix s [33])), .bool (Lib.hasSuffix s [33])]) ∧ w = w' :=
  (Tryd.strings_CutSuffix (txt s) ⟨#[33]⟩ w (by rw [txt_size]; exact hs)).mono fun e w' ⟨h1, h2⟩ => ⟨by rw [h1, txt_toList]; rfl, h2.symm⟩

set_option maxRecDepth 100000 in
set_option maxHeartbeats 2000000 in
theorem entry_calls (s : List UInt8) (w : World) (hs : s.length ≤ 9223372036854775807) :
    Calls Tryd.prog 64 #[.string (txt s)] w fun e w' =>
      e = .returned (.tuple #[.agg #[.int .i32 (entU (Lib.trimSuffix s [33]) 0 0 0 0).1, .int .i32 (entU (Lib.trimSuffix s [33]) 0 0 0 0).2.1, .int .i32 (entU (Lib.trimSuffix s [33]) 0 0 0 0).2.2], .bool (Lib.hasSuffix s [33])]) ∧ Below w.heap.size w w' := by
  obtain ⟨t, ht⟩ : ∃ t, t = Lib.trimSuffix s [33] := ⟨_, rfl⟩
  have htl : t.length ≤ s.length := by
    rw [ht, Lib.trimSuffix]; split
    · simp
    · exact Nat.le_refl _
  have hcut := cut_calls s (w.alloc (.cells #[.int .i32 0, .int .i32 0, .int .i32 0] 73)) hs
  rw [← ht] at hcut ⊢
  clear ht
  go_enter Tryd.func64, Tryd.ntmps64
  go_wp2
  go_step3
  go_wp2_with (go_at_call 77; refine hcut.mono ?_; rintro e w' ⟨rfl, rfl⟩)
  go_step3
  go_wp2
  have h3 : Three (w.alloc (.cells #[.int .i32 0, .int .i32 0, .int .i32 0] 73)) w.heap.size 0 0 0 := World.alloc_heap_new w _
  have hB : Below w.heap.size w (w.alloc (.cells #[.int .i32 0, .int .i32 0, .int .i32 0] 73)) := (Below.refl _ _).alloc (Nat.le_refl _) _
  have hsz : (txt t).size = t.length := txt_size t
  go_loopg [4, 13] (t.length + 1) (fun gk v4 v13 wr => ∃ (k at_ : Nat) (a b c : Int), v4 = .int .i64 at_ ∧ v13 = .int .i64 k ∧ k ≤ t.length ∧ at_ ≤ 2 ∧ Hid (Three wr w.heap.size a b c ∧ Below w.heap.size w wr ∧ entU (t.drop k) at_ a b c = entU t 0 0 0 0 ∧ gk = t.length - k + 1))
  case atStart => exact ⟨0, 0, 0, 0, 0, rfl, rfl, Nat.zero_le _, by omega, h3, hB, rfl, by omega⟩
  case round =>
    clear h3 hB hcut
    obtain ⟨k, at_, a, b, c, rfl, rfl, hk, hat, hH⟩ := hrel
    obtain ⟨h3, hB, hent, hgk⟩ := hH.out
    have hc0 := h3.cell0
    have hc1 := h3.cell1
    have hc2 := h3.cell2
    have hf0 := h3.frozen 0
    have hf1 := h3.frozen 1
    have hf2 := h3.frozen 2
    have HE := Lib.hid hent
    have HG := Lib.hid hgk
    clear hent hgk hH
    by_cases hlt : k < t.length
    · obtain ⟨x, hx0⟩ : ∃ x, t[k]'hlt = x := ⟨_, rfl⟩
      have hx : (txt t)[k]'(by rw [hsz]; exact hlt) = x := by rw [← hx0]; exact txt_get t k _
      have hdr : t.drop k = x :: t.drop (k + 1) := by rw [← hx0]; exact List.drop_eq_getElem_cons hlt
      have HD := Lib.hid hdr
      clear hx0 hdr
      have hxr := x.toNat_lt
      by_cases h32 : x = 32
      · have hx32 : ((x.toNat : Int) == 32) = true := by subst h32; rfl
        by_cases ha2 : at_ = 2
        · subst ha2
          have HE2 := Lib.hid (show entU t 0 0 0 0 = (a, b, c) by rw [← HE.out, HD.out, entU, if_pos h32, if_pos rfl])
          clear h32
          go_wp2
          rw [Exit.noGoto_ret]
          obtain ⟨W3, hW3⟩ : ∃ W3, W3 = ((wr.setCell ⟨w.heap.size, 0, none⟩ (.int .i32 a)).setCell ⟨w.heap.size, 1, none⟩ (.int .i32 b)).setCell ⟨w.heap.size, 2, none⟩ (.int .i32 c) := ⟨_, rfl⟩
          have g3 : Three W3 w.heap.size a b c := by rw [hW3]; exact ((h3.set0 a).set1 b).set2 c
          have gB : Below w.heap.size w W3 := by rw [hW3]; exact ((hB.setCell (p := ⟨w.heap.size, 0, none⟩) (Nat.le_refl _) _).setCell (p := ⟨w.heap.size, 1, none⟩) (Nat.le_refl _) _).setCell (p := ⟨w.heap.size, 2, none⟩) (Nat.le_refl _) _
          rw [← hW3]
          clear hW3
          have g0 := g3.cell0
          have g1 := g3.cell1
          have g2 := g3.cell2
          refine bodyPost_ret (v := .tuple #[.agg #[.int .i32 a, .int .i32 b, .int .i32 c], .bool (Lib.hasSuffix s [33])]) (by simp [results, Tryd.results64, go_sem, g0, g1, g2]) rfl ⟨?_, gB⟩
          rw [HE2.out]
        · have hstep := Lib.hid (show entU t 0 0 0 0 = entU (t.drop (k + 1)) (at_ + 1) a b c by rw [← HE.out, HD.out, entU, if_pos h32, if_neg ha2])
          have hd2 : ((at_ : Int) == 2) = false := by simp; omega
          have hne : ¬ ((at_ : Int) = 2) := by omega
          have hat1 : at_ + 1 ≤ 2 := by omega
          clear h32 ha2
          go_wp2
          go_roundg (t.length - k)
          case measure => rw [HG.out]; omega
          case rel => exact ⟨k + 1, at_ + 1, a, b, c, by go_num, by go_num, by omega, hat1, h3, hB, hstep.out.symm, by omega⟩
      · have hx32 : ((x.toNat : Int) == 32) = false := by
          simp only [beq_eq_false_iff_ne, ne_eq]
          intro e; apply h32; apply UInt8.toNat_inj.1; simp; omega
        have hxn : ¬ ((x.toNat : Int) = 32) := by simpa using hx32
        have hx0 : (0 : Int) ≤ x.toNat := by omega
        have hx255 : (x.toNat : Int) ≤ 255 := by omega
        have hat3 : at_ = 0 ∨ at_ = 1 ∨ at_ = 2 := by omega
        rcases hat3 with rfl | rfl | rfl
        · have hstep := Lib.hid (show entU t 0 0 0 0 = entU (t.drop (k + 1)) 0 (pushU a x) b c by rw [← HE.out, HD.out, entU, if_neg h32, if_pos rfl])
          clear h32
          go_upto_region 6 with (fail)
          go_region_with (go_at_call 78; refine (digit_calls _ hx0 hx255 _).mono ?_; rintro e w' ⟨rfl, rfl⟩)
          all_goals
            go_wp2
            go_roundg (t.length - k)
            case measure => rw [HG.out]; omega
            case rel => exact ⟨k + 1, 0, pushU a x, b, c, by go_num, by go_num, by omega, by omega, (h3.set0 _).drew, (hB.setCell (p := ⟨w.heap.size, 0, none⟩) (Nat.le_refl _) _).drew, hstep.out.symm, by omega⟩
        · have hstep := Lib.hid (show entU t 0 0 0 0 = entU (t.drop (k + 1)) 1 a (pushU b x) c by rw [← HE.out, HD.out, entU, if_neg h32, if_neg (by omega), if_pos rfl])
          clear h32
          go_upto_region 6 with (fail)
          go_region_with (go_at_call 78; refine (digit_calls _ hx0 hx255 _).mono ?_; rintro e w' ⟨rfl, rfl⟩)
          all_goals
            go_wp2
            go_roundg (t.length - k)
            case measure => rw [HG.out]; omega
            case rel => exact ⟨k + 1, 1, a, pushU b x, c, by go_num, by go_num, by omega, by omega, (h3.set1 _).drew, (hB.setCell (p := ⟨w.heap.size, 1, none⟩) (Nat.le_refl _) _).drew, hstep.out.symm, by omega⟩
        · have hstep := Lib.hid (show entU t 0 0 0 0 = entU (t.drop (k + 1)) 2 a b (pushU c x) by rw [← HE.out, HD.out, entU, if_neg h32, if_neg (by omega), if_neg (by omega)])
          clear h32
          go_upto_region 6 with (fail)
          go_region_with (go_at_call 78; refine (digit_calls _ hx0 hx255 _).mono ?_; rintro e w' ⟨rfl, rfl⟩)
          all_goals
            go_wp2
            go_roundg (t.length - k)
            case measure => rw [HG.out]; omega
            case rel => exact ⟨k + 1, 2, a, b, pushU c x, by go_num, by go_num, by omega, by omega, (h3.set2 _).drew, (hB.setCell (p := ⟨w.heap.size, 2, none⟩) (Nat.le_refl _) _).drew, hstep.out.symm, by omega⟩
    · have hkl : k = t.length := by omega
      have HE2 := Lib.hid (show entU t 0 0 0 0 = (a, b, c) by rw [← HE.out, hkl, List.drop_length, entU])
      clear hkl
      go_wp2
      rw [Exit.noGoto_ret]
      obtain ⟨W3, hW3⟩ : ∃ W3, W3 = ((wr.setCell ⟨w.heap.size, 0, none⟩ (.int .i32 a)).setCell ⟨w.heap.size, 1, none⟩ (.int .i32 b)).setCell ⟨w.heap.size, 2, none⟩ (.int .i32 c) := ⟨_, rfl⟩
      have g3 : Three W3 w.heap.size a b c := by rw [hW3]; exact ((h3.set0 a).set1 b).set2 c
      have gB : Below w.heap.size w W3 := by rw [hW3]; exact ((hB.setCell (p := ⟨w.heap.size, 0, none⟩) (Nat.le_refl _) _).setCell (p := ⟨w.heap.size, 1, none⟩) (Nat.le_refl _) _).setCell (p := ⟨w.heap.size, 2, none⟩) (Nat.le_refl _) _
      rw [← hW3]
      clear hW3
      have g0 := g3.cell0
      have g1 := g3.cell1
      have g2 := g3.cell2
      refine bodyPost_ret (v := .tuple #[.agg #[.int .i32 a, .int .i32 b, .int .i32 c], .bool (Lib.hasSuffix s [33])]) (by simp [results, Tryd.results64, go_sem, g0, g1, g2]) rfl ⟨?_, gB⟩
      rw [HE2.out]
end Go.Proofs.YtejikiebhjiocaaDoor
