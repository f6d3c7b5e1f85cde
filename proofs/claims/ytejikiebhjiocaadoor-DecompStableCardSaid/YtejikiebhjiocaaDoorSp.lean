/- The closure of strings.SplitSeq (a separator of one byte) hands out the parts of its text, one by one. -/
import Derived.Test.YtejikiebhjiocaaDoorLn
set_option linter.unusedVariables false
set_option linter.unusedSimpArgs false
namespace Go.Proofs.YtejikiebhjiocaaDoor
open Go.RowKit Go.Shelf
attribute [local go_sem] Oper.semAt_some

theorem indexC (r : List UInt8) (c : UInt8) (w : World) : Calls Tryd.prog 85 #[.string (txt r), .string ⟨#[c]⟩] w fun e w' => e = .returned (.int .i64 (Lib.indexByte r c)) ∧ w = w' :=
  (Tryd.strings_Index_one (txt r) c w).mono fun e w' ⟨h1, h2⟩ => ⟨by rw [h1, txt_toList], h2.symm⟩

set_option maxRecDepth 100000 in
set_option maxHeartbeats 2000000 in
theorem split1 (s : List UInt8) (hs : s.length ≤ 9223372036854775807) (c : UInt8) (Bs Bx Bn B : Nat) (hB : B ≤ Bx) :
    IterAll itE B Tryd.prog 83 #[.pointer (some ⟨Bs, 0, none⟩), .pointer (some ⟨Bx, 0, none⟩), .pointer (some ⟨Bn, 0, none⟩)] ((partsOf c s).map one)
      (fun l D W => Boxed W Bx 9 (.string (txt s)) ∧ Bx ≠ l ∧ Bx ≠ D ∧ Boxed W Bs 9 (.string ⟨#[c]⟩) ∧ Bs ≠ l ∧ B ≤ Bs ∧ Bs ≠ Bx ∧ Boxed W Bn 3 (.int .i64 0) ∧ B ≤ Bn ∧ Bn ≠ l) (fun _ => True) := by
  intro l D J W hPre _ hst hY h0
  obtain ⟨hb, hl, hlD, hbs, hls, hBs, hsx, hn, hBn, hln⟩ := hPre
  have hX : ¬ recs l D Bx := by rintro (h | h); exact hl h; exact hlD h
  refine (callsIn_wide (n := 9)).1 ?_
  refine callsIn_of_wp Tryd.func83 rfl trivial ?_ rfl
  simp only [Tryd.ntmps83, List.size_toArray, List.length_cons, List.length_nil, Nat.reduceAdd, Nat.reduceSub, Array.replicate_succ, Array.replicate_zero, List.push_toArray, List.append_toArray, List.nil_append, List.cons_append]
  have hcs := hbs.cell
  have hs1 : (ByteArray.mk #[c]).size = 1 := rfl
  have hcn := hn.cell
  gi_wp2
  gi_loopg [] ((partsOf c s).length) (fun k wr => ∃ (r : List UInt8) (i : Nat), Hid (Boxed wr Bx 9 (.string (txt r)) ∧ Boxed wr Bs 9 (.string ⟨#[c]⟩) ∧ Boxed wr Bn 3 (.int .i64 0) ∧ J i wr ∧ (partsOf c s).drop i = partsOf c r ∧ r.length ≤ s.length ∧ k = (partsOf c r).length))
  case atStart => exact ⟨s, 0, hb, hbs, hn, h0, by simp, Nat.le_refl _, rfl⟩
  case round =>
    obtain ⟨r, i, hr⟩ := hrel
    obtain ⟨hb', hbs', hn', hJ, hdrop, hlen, hk⟩ := hr.out
    clear hb hbs hn hcs hcn hr
    have hc := hb'.cell
    have hcs := hbs'.cell
    have hcn := hn'.cell
    have hsm : (txt r).size ≤ 9223372036854775807 := by rw [txt_size]; omega
    by_cases hi : 0 ≤ Lib.indexByte r c
    · obtain ⟨hi1, hi2⟩ := partsOf_some c hi
      have hn1 : Lib.indexByte r c + 1 ≤ (txt r).size := by rw [txt_size]; omega
      have hwr : Lib.indexByte r c + 1 ≤ 9223372036854775807 := by omega
      have hd : (Lib.indexByte r c + 1).toNat = (Lib.indexByte r c).toNat + 1 := by omega
      have hlt : i < ((partsOf c s).map one).length := by
        have := congrArg List.length hdrop
        rw [hi1] at this; simp at this; simp; omega
      obtain ⟨fn, tmps, assign, body, hy, hR⟩ := hY i wr hlt hJ
      have hy' : (Instr.yield l #[.string ((txt r).extract 0 (Lib.indexByte r c).toNat)]).run Tryd.prog wr = .ok (.round l fn tmps assign body) wr := by
        have e : ((partsOf c s).map one)[i] = #[.string ((txt r).extract 0 (Lib.indexByte r c).toNat)] := by
          have h1 : (partsOf c s)[i]? = some (r.take (Lib.indexByte r c).toNat) := by
            have := congrArg (·[0]?) hdrop
            rw [hi1] at this; simpa using this
          rw [txt_extract, List.drop_zero]
          have h2 := List.getElem?_eq_some_iff.1 h1
          simp [one, h2.2]
        rw [← e]; exact hy
      have Hd := Lib.hid hdrop
      have Hk := Lib.hid hk
      have Hi := Lib.hid hi1
      have Hdd := Lib.hid hd
      clear hy hdrop hk hi1 hd
      gi_wp2_with (refine ⟨trivial, ?_⟩; gi_at_call 85; refine (callsIn_wide.2 (indexC _ _ _)).mono ?_; rintro e w' ⟨rfl, rfl⟩)
      refine (roundIn_any hR).mono ?_
      rintro e W3 ⟨rfl, hJ3, hk3⟩
      have gb := hk3.box hb' rfl hB hl
      have gs := hk3.box hbs' rfl hBs hls
      have gn := hk3.box hn' rfl hBn hln
      have gc := gb.cell
      have gcs := gs.cell
      have gf := gb.frozen
      have hnx : Bn ≠ Bx := fun e => by subst e; have := (show W3.heap[Bn]? = _ from gn).symm.trans gb; simp at this
      clear hc hcs hcn
      gi_wp2
      gi_roundg (partsOf c (r.drop ((Lib.indexByte r c).toNat + 1))).length
      case measure => rw [Hk.out, Hi.out]; simp
      case rel =>
        refine ⟨r.drop ((Lib.indexByte r c).toNat + 1), i + 1, ?_⟩
        have e1 : (txt r).extract (Lib.indexByte r c + 1).toNat (txt r).size = txt (r.drop ((Lib.indexByte r c).toNat + 1)) := by
          rw [Hdd.out, txt_extract, txt_size, List.take_length]
        refine ⟨?_, gs.other hsx _, gn.other hnx _, ?_, ?_, ?_, rfl⟩
        · rw [e1]; exact gb.set _
        · exact hst _ _ _ hJ3 ((ItStep.refl _ _ _ _).setBox _ gb rfl hB hX)
        · rw [← List.drop_drop, Hd.out, Hi.out]; rfl
        · simp; omega
    · have hi1 := partsOf_none c (l := r) (by omega)
      have hlt : i < ((partsOf c s).map one).length := by
        have := congrArg List.length hdrop
        rw [hi1] at this; simp at this; simp; omega
      have hlast : i + 1 = ((partsOf c s).map one).length := by
        have := congrArg List.length hdrop
        rw [hi1] at this; simp at this; simp; omega
      obtain ⟨fn, tmps, assign, body, hy, hR⟩ := hY i wr hlt hJ
      have hy' : (Instr.yield l #[.string (txt r)]).run Tryd.prog wr = .ok (.round l fn tmps assign body) wr := by
        have e : ((partsOf c s).map one)[i] = #[.string (txt r)] := by
          have h1 : (partsOf c s)[i]? = some r := by
            have := congrArg (·[0]?) hdrop
            rw [hi1] at this; simpa using this
          have h2 := List.getElem?_eq_some_iff.1 h1
          simp [one, h2.2]
        rw [← e]; exact hy
      have Hl := Lib.hid hlast
      clear hy hdrop hk hi1 hlast
      gi_wp2_with (refine ⟨trivial, ?_⟩; gi_at_call 85; refine (callsIn_wide.2 (indexC _ _ _)).mono ?_; rintro e w' ⟨rfl, rfl⟩)
      refine (roundIn_any hR).mono ?_
      rintro e W3 ⟨rfl, hJ3, hk3⟩
      gi_wp2
      go_end0
      exact ⟨⟨_, rfl⟩, Hl.out ▸ hJ3⟩
end Go.Proofs.YtejikiebhjiocaaDoor
