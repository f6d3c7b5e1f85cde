/- (*stage.Table).Get and (*ucd.Tables).Class. -/
import Derived.Test.YtejikiebhjiocaaDoorSe
import Derived.Test.YtejikiebhjiocaaDoorShelf
import Derived.Deep.QuietTactic
set_option linter.unusedVariables false
set_option linter.unusedSimpArgs false
namespace Go.Proofs.YtejikiebhjiocaaDoor
open Go.RowKit

/-- What Get tells. -/
def getV (g : Nat → Int) (c : Int) : Int := if 0 ≤ c ∧ c ≤ 1114111 then g c.toNat else 0

set_option maxRecDepth 100000 in
set_option maxHeartbeats 4000000 in
theorem get_calls (w : World) (p : Nat) (g : Nat → Int) (c : Int) (hT : TableIs w p g) :
    Calls Tryd.prog 29 #[.pointer (some ⟨p, 0, none⟩), .int .i32 c] w fun e w' => e = .returned (.int .i64 (getV g c)) ∧ ∃ m, w' = w.drewN m := by
  obtain ⟨T, Ab, bs, cb, base, h1, h2, h3, h4⟩ := hT.is
  by_cases hin : 0 ≤ c ∧ c ≤ 1114111
  · obtain ⟨x, rfl⟩ := Int.eq_ofNat_of_zero_le hin.1
    have hx : x ≤ 1114111 := by omega
    have hx0 : (0 : Int) ≤ (x : Int) := by omega
    have hx1 : (x : Int) ≤ 1114111 := by omega
    have hd : x / 256 < 4352 := by omega
    have hm : x % 256 < 256 := by omega
    have hq0 : (0 : Int) ≤ (x : Int) / 256 := by omega
    have hq1 : (x : Int) / 256 < 4352 := by omega
    have hq2 : ((x : Int) / 256).toNat = x / 256 := by omega
    have hr0 : (0 : Int) ≤ (x : Int) % 256 := by omega
    have hr1 : (x : Int) % 256 < 256 := by omega
    have hr2 : ((x : Int) % 256).toNat = x % 256 := by omega
    obtain ⟨i, hi, hTi, hg⟩ := h4 _ hd
    have hv : getV g (x : Int) = bs[i] (x % 256) := by
      unfold getV
      rw [if_pos hin, hg _ hm]
      congr 1
      simp; omega
    obtain ⟨y, hy⟩ : ∃ y, y = bs[i] (x % 256) := ⟨_, rfl⟩
    rw [hv]
    have hi0 : (0 : Int) ≤ (i : Int) := by omega
    have hi1 : (i : Int) < (bs.length : Int) := by omega
    have hc1 : w.cell? ⟨p, 4352, none⟩ = some (.slice Ab bs.length cb) := by rw [cell_of_row _ _ _ _ _ _ h1]; exact h2
    have hc2 : w.cell? ⟨p, x / 256, none⟩ = some (.int .i64 (i : Int)) := by rw [cell_of_row _ _ _ _ _ _ h1]; exact hTi
    obtain ⟨G, rfl, hc3⟩ : ∃ G, Ab = some ⟨G, 0, none⟩ ∧ w.cell? ⟨G, i * 256 + x % 256, none⟩ = some (.int .i64 y) := by
      rw [hy]
      rcases h3.2 with ⟨k1, k2⟩ | ⟨G, cap, cur, k1, k2, k3, k4, k5, k6, k7⟩
      · omega
      · refine ⟨G, by simpa using (congrArg (fun v => match v with | Value.slice a _ _ => a | _ => none) k1), ?_⟩
        rw [cell_of_row _ _ _ _ _ _ k3]
        have := flatB_at bs i (x % 256) hi hm
        rw [← k7, List.getElem?_take_of_lt (by have : (i + 1) * 256 ≤ bs.length * 256 := Nat.mul_le_mul_right _ hi
                                               omega)] at this
        simpa using this
    rw [← hy]
    clear hg hy hv h3 h4 hTi h2 h1 hT
    go_enter Tryd.func29, Tryd.ntmps29
    go_wp2_with (go_at_call 42; refine (in_calls _ _).mono ?_; rintro e w' ⟨rfl, rfl⟩)
    go_region
    go_wp2
    go_ret
    exact ⟨rfl, 1, rfl⟩
  · have hv : getV g c = 0 := by unfold getV; rw [if_neg hin]
    rw [hv]
    have hdec : decide (0 ≤ c ∧ c ≤ 1114111) = false := by simpa using fun h => Int.lt_of_not_ge fun h2 => hin ⟨h, h2⟩
    go_enter Tryd.func29, Tryd.ntmps29
    go_wp2_with (go_at_call 42; refine (in_calls _ _).mono ?_; rintro e w' ⟨rfl, rfl⟩; rw [hdec])
    go_ret
    exact ⟨rfl, 0, rfl⟩
end Go.Proofs.YtejikiebhjiocaaDoor
