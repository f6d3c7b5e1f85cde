/- What the rows list, and what the walks ask of it; slices of whole numbers that came in. -/
import Derived.Test.YtejikiebhjiocaaDoorRs
import Derived.Test.YtejikiebhjiocaaDoorRows
import Derived.WalkKit
import Derived.ProofKit
import Derived.OpenShut
import Derived.ChangeOld
import Derived.LaidMore
import Derived.Lay
import Derived.Lib.LaidU8
set_option linter.unusedVariables false
set_option linter.unusedSimpArgs false
namespace Go.Proofs.YtejikiebhjiocaaDoor
open Go.ChangeShapes Go.WideShapes Go.ChangeAt Go.RowKit

theorem rowOwn : ownKnob Tryd.prog.godebug = none := by kernel_rfl
theorem rowLaidOut : laidOutB Tryd.prog = true := by kernel_rfl
/-- What the rows list. -/
def laid4 : List (String × DataW Unit) := [("unicode/utf8.acceptRanges", Rows.laid_unicode_utf8_acceptRanges), ("unicode.White_Space", Rows.laid_unicode_White_Space), ("strings.asciiSpace", Rows.laid_strings_asciiSpace), ("unicode/utf8.first", Rows.laid_unicode_utf8_first)]
theorem space_tab : (Rows.laid_strings_asciiSpace : DataW Unit) = Lib.tabData .u8 Lib.asciiSpaceTab := by kernel_rfl
theorem spaceIs_of_laid {W : World} (h : laidMet Tryd.prog laid4 W) : SpaceIs W := by
  obtain ⟨g, t, cs, fuel, p, hg, ht, hv, hd⟩ := Lib.laidMet.reads h (n := "strings.asciiSpace") (d := Rows.laid_strings_asciiSpace) (by unfold laid4; simp)
  have ht2 : (Tryd.prog.globals[g]?).map (·.type) = some 124 := by
    have : Tryd.prog.globalNamed "strings.asciiSpace" = some g := hg
    have e : ((Tryd.prog.globalNamed "strings.asciiSpace").bind fun g => (Tryd.prog.globals[g]?).map (·.type)) = some 124 := by kernel_rfl
    rw [this] at e
    exact e
  obtain rfl := Option.some.inj (ht2.symm.trans ht)
  rw [space_tab] at hd
  have hc := Lib.cells_of_tab Tryd.underlying124 Tryd.underlying5 (by kernel_rfl) (by kernel_rfl) hd
  unfold SpaceIs Lib.TabIs
  rw [hv, ← hc]
/-- A start that fits. -/
theorem laid_start (os : Os) (args : Array Value) : laidMetH Tryd.prog laid4 ((World.laidAll Tryd.prog os laid4).forCall (fun _ _ => 0) ⟨#[], args, []⟩).memory := by
  rw [MakeChecks.laidMetH_plain _ _ _ (by kernel_rfl)]
  exact laidMet_laidAll _ (by kernel_rfl) (by kernel_rfl)
/-- A slice of whole numbers that came in. -/
theorem rdN_open {H : Type} {enc : TypeId × Value → H} {W : World} {base : Nat} {sp : Nat → Bool} {held : Bool} {a0 : Option Addr} {len0 cap0 : Nat} {d : DataW H} {p : List MemPlace}
    (h0 : DataW.Trod enc Tryd.prog W base sp held 22 (.slice a0 len0 cap0) d p) : ∃ zs, RdN W (.slice a0 len0 cap0) zs := by
  obtain ⟨fuel, hf⟩ := h0
  rcases open_ints Tryd.underlying22 Tryd.underlying3 (by kernel_rfl) hf with ⟨hcs, _⟩ | ⟨x, l, c, zs, hcs, _, hl, hm, hz, _, hcell, hwz⟩
  · simp [Value.cells] at hcs
    obtain ⟨rfl, rfl, rfl⟩ := hcs
    exact ⟨[], none, 0, rfl, by simp, 0, 0, by simp, by simp⟩
  · simp [Value.cells] at hcs
    obtain ⟨rfl, rfl, rfl⟩ := hcs
    have hz' : len0 ≤ zs.length := by
      clear hf
      rw [hz]
      split <;> omega
    obtain ⟨b, o, q⟩ := x
    have hlen : (zs.take len0).length = len0 := by rw [List.length_take]; omega
    refine ⟨zs.take len0, some ⟨b, o, q⟩, cap0, by rw [hlen], by rw [hlen]; omega, b, o, fun h => ?_, fun j hj => ?_⟩
    · rw [hlen] at h
      have h1 := hcell 0 (by omega)
      have e : (⟨b, o, q⟩ : Addr).add 0 = ⟨b, o, q⟩ := by cases q <;> rfl
      rw [e] at h1
      rw [cell_spot h1]
    · rw [hlen] at hj
      have h0 := hcell 0 (by omega)
      have e : (⟨b, o, q⟩ : Addr).add 0 = ⟨b, o, q⟩ := by cases q <;> rfl
      rw [e] at h0
      have hq := cell_spot h0
      subst hq
      have h1 := hcell j (by omega)
      rw [Addr.add_mid] at h1
      rw [h1]
      have : j < zs.length := by omega
      simp [this]
end Go.Proofs.YtejikiebhjiocaaDoor
