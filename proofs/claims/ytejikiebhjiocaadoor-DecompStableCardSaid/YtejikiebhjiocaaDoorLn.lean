/- The closure of strings.Lines hands out the lines of its text, one by one. -/
import Derived.Test.YtejikiebhjiocaaDoorIt
import Derived.Test.YtejikiebhjiocaaDoorTx
import Derived.Test.YtejikiebhjiocaaDoorShelf
import Derived.Shelf.Abstract
import Derived.Shelf.RegionOpen
import Derived.WalkKit
import Derived.OwnWalkIn
import Derived.TacticsInMore
import Derived.LoopNIn
import Derived.LoopIn
import Derived.Sort.LoopGhostIn
import Derived.Sort.CutIn
import Derived.Sort.QuietIn
import Derived.Lib.Hide
import Derived.RegionIn
import Derived.BigRegionIn
import Derived.Outline
set_option linter.unusedVariables false
set_option linter.unusedSimpArgs false
namespace Go.Proofs.YtejikiebhjiocaaDoor
open Go.RowKit Go.Shelf
attribute [local go_sem] Oper.semAt_some

/-- The boxes that the iterators over texts turn: of strings, of ints, of yield. -/
def itE : List Nat := [9, 3, 100]
/-- One string as yield's arguments. -/
def one (l : List UInt8) : Array Value := #[.string (txt l)]

theorem index10 (r : List UInt8) (w : World) : Calls Tryd.prog 72 #[.string (txt r), .int .u8 10] w fun e w' => e = .returned (.int .i64 (Lib.indexByte r 10)) ∧ w = w' :=
  (Tryd.strings_IndexByte (txt r) 10 w).mono fun e w' ⟨h1, h2⟩ => ⟨by rw [h1, txt_toList]; rfl, h2.symm⟩

set_option maxRecDepth 100000 in
set_option maxHeartbeats 2000000 in
theorem lines1 (s : List UInt8) (hs : s.length ≤ 9223372036854775807) (Bx B : Nat) (hB : B ≤ Bx) :
    IterAll itE B Tryd.prog 71 #[.pointer (some ⟨Bx, 0, none⟩)] ((linesOf s).map one) (fun l D W => Boxed W Bx 9 (.string (txt s)) ∧ Bx ≠ l ∧ Bx ≠ D) (fun _ => True) := by
  intro l D J W hPre _ hst hY h0
  obtain ⟨hb, hl, hlD⟩ := hPre
  have hX : ¬ recs l D Bx := by rintro (h | h); exact hl h; exact hlD h
  refine (callsIn_wide (n := 9)).1 ?_
  refine callsIn_of_wp Tryd.func71 rfl trivial ?_ rfl
  simp only [Tryd.ntmps71, List.size_toArray, List.length_cons, List.length_nil, Nat.reduceAdd, Nat.reduceSub, Array.replicate_succ, Array.replicate_zero, List.push_toArray, List.append_toArray, List.nil_append, List.cons_append]
  gi_wp2
  gi_loopg [] ((linesOf s).length) (fun k wr => ∃ (r : List UInt8) (i : Nat), Hid (Boxed wr Bx 9 (.string (txt r)) ∧ J i wr ∧ (linesOf s).drop i = linesOf r ∧ r.length ≤ s.length ∧ i ≤ (linesOf s).length ∧ k = (linesOf r).length))
  case atStart => exact ⟨s, 0, hb, h0, by simp, Nat.le_refl _, Nat.zero_le _, rfl⟩
  case round =>
    obtain ⟨r, i, hr⟩ := hrel
    obtain ⟨hb', hJ, hdrop, hlen, hil, hk⟩ := hr.out
    have hc := hb'.cell
    have hf := hb'.frozen
    clear hb hr
    by_cases hne : r = []
    · subst hne
      have hsz : (txt []).size = 0 := by simp [txt_size]
      have hend : J (List.map one (linesOf s)).length wr := by
        have h1 : (linesOf s).length ≤ i := by
          have := congrArg List.length hdrop
          simp [linesOf] at this; omega
        have h2 : i = (linesOf s).length := by omega
        subst h2; simpa using hJ
      clear hdrop hk
      gi_wp2
      go_end0
      exact ⟨⟨_, rfl⟩, hend⟩
    · have hsz : 0 < (txt r).size := by
        rw [txt_size]; exact List.length_pos_iff.2 hne
      have hsm : (txt r).size ≤ 9223372036854775807 := by rw [txt_size]; omega
      by_cases hi : 0 ≤ Lib.indexByte r 10
      · obtain ⟨hi1, hi2⟩ := linesOf_some hi
        have hn1 : Lib.indexByte r 10 + 1 ≤ (txt r).size := by rw [txt_size]; omega
        have hwr : Lib.indexByte r 10 + 1 ≤ 9223372036854775807 := by omega
        have hd : (Lib.indexByte r 10 + 1).toNat = (Lib.indexByte r 10).toNat + 1 := by omega
        have hlt : i < ((linesOf s).map one).length := by
          have := congrArg List.length hdrop
          rw [hi1] at this; simp at this; simp; omega
        obtain ⟨W1, hW1⟩ : ∃ W1, W1 = (wr.setCell ⟨Bx, 0, none⟩ (.string ((txt r).extract (Lib.indexByte r 10 + 1).toNat (txt r).size))).drew := ⟨_, rfl⟩
        have hs1 : ItStep itE B (recs l D) wr W1 := by rw [hW1]; exact ((ItStep.refl _ _ _ _).setBox _ hb' rfl hB hX).drew
        have hb1 : Boxed W1 Bx 9 (.string (txt (r.drop ((Lib.indexByte r 10).toNat + 1)))) := by
          rw [hW1, hd, txt_extract, txt_size, List.take_length]; exact hb'.set _
        obtain ⟨fn, tmps, assign, body, hy, hR⟩ := hY i W1 hlt (hst i _ _ hJ hs1)
        have hy' : (Instr.yield l #[.string ((txt r).extract 0 (Lib.indexByte r 10 + 1).toNat)]).run Tryd.prog W1 = .ok (.round l fn tmps assign body) W1 := by
          have e : ((linesOf s).map one)[i] = #[.string ((txt r).extract 0 (Lib.indexByte r 10 + 1).toNat)] := by
            have h1 : (linesOf s)[i]? = some (r.take ((Lib.indexByte r 10).toNat + 1)) := by
              have := congrArg (·[0]?) hdrop
              rw [hi1] at this; simpa using this
            rw [txt_extract, hd, List.drop_zero]
            have h2 := List.getElem?_eq_some_iff.1 h1
            simp [one, h2.2]
          rw [← e]; exact hy
        have hy'' := hy'
        rw [hW1] at hy''
        have Hd := Lib.hid hdrop
        have Hk := Lib.hid hk
        have Hi := Lib.hid hi1
        have HW := Lib.hid hW1
        clear hy hy' hdrop hk hi1 hd hW1
        gi_upto_region 4 with (refine ⟨trivial, ?_⟩; gi_at_call 72; refine (callsIn_wide.2 (index10 _ _)).mono ?_; rintro e w' ⟨rfl, rfl⟩)
        gi_region
        gi_wp2
        refine (roundIn_any (HW.out ▸ hR)).mono ?_
        rintro e W3 ⟨rfl, hJ3, hk3⟩
        gi_wp2
        gi_roundg (linesOf (r.drop ((Lib.indexByte r 10).toNat + 1))).length
        case measure => rw [Hk.out, Hi.out]; simp
        case rel =>
          refine ⟨r.drop ((Lib.indexByte r 10).toNat + 1), i + 1, ?_⟩
          refine ⟨hk3.box (HW.out ▸ hb1) rfl hB hl, hJ3, ?_, ?_, ?_, rfl⟩
          · rw [← List.drop_drop, Hd.out, Hi.out]; rfl
          · simp; omega
          · simp at hlt; omega
      · have hi1 := linesOf_none hne (by omega)
        have hlt : i < ((linesOf s).map one).length := by
          have := congrArg List.length hdrop
          rw [hi1] at this; simp at this; simp; omega
        obtain ⟨W1, hW1⟩ : ∃ W1, W1 = wr.setCell ⟨Bx, 0, none⟩ (.string ⟨#[]⟩) := ⟨_, rfl⟩
        have hs1 : ItStep itE B (recs l D) wr W1 := by rw [hW1]; exact (ItStep.refl _ _ _ _).setBox _ hb' rfl hB hX
        have hb1 : Boxed W1 Bx 9 (.string (txt [])) := by rw [hW1]; exact hb'.set _
        obtain ⟨fn, tmps, assign, body, hy, hR⟩ := hY i W1 hlt (hst i _ _ hJ hs1)
        have hy' : (Instr.yield l #[.string (txt r)]).run Tryd.prog W1 = .ok (.round l fn tmps assign body) W1 := by
          have e : ((linesOf s).map one)[i] = #[.string (txt r)] := by
            have h1 : (linesOf s)[i]? = some r := by
              have := congrArg (·[0]?) hdrop
              rw [hi1] at this; simpa using this
            have h2 := List.getElem?_eq_some_iff.1 h1
            simp [one, h2.2]
          rw [← e]; exact hy
        have hy'' := hy'
        rw [hW1] at hy''
        have Hd := Lib.hid hdrop
        have Hk := Lib.hid hk
        have Hi := Lib.hid hi1
        have HW := Lib.hid hW1
        clear hy hy' hdrop hk hi1 hW1
        gi_wp2_with (refine ⟨trivial, ?_⟩; gi_at_call 72; refine (callsIn_wide.2 (index10 _ _)).mono ?_; rintro e w' ⟨rfl, rfl⟩)
        refine (roundIn_any (HW.out ▸ hR)).mono ?_
        rintro e W3 ⟨rfl, hJ3, hk3⟩
        gi_wp2
        gi_roundg 0
        case measure => rw [Hk.out, Hi.out]; simp
        case rel =>
          refine ⟨[], i + 1, hk3.box (HW.out ▸ hb1) rfl hB hl, hJ3, ?_, by simp, ?_, rfl⟩
          · rw [← List.drop_drop, Hd.out, Hi.out]; rfl
          · simp at hlt; omega
end Go.Proofs.YtejikiebhjiocaaDoor
