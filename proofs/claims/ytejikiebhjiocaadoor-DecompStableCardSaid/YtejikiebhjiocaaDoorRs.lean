/- Runes: a row of scalars. -/
import Derived.Test.YtejikiebhjiocaaDoorRn
set_option linter.unusedVariables false
set_option linter.unusedSimpArgs false
namespace Go.Proofs.YtejikiebhjiocaaDoor
open Go.RowKit

/-- A slice that reads as a row of whole numbers. -/
def RdN (W : World) (v : Value) (xs : List Int) : Prop :=
  ∃ A c, v = .slice A xs.length c ∧ xs.length ≤ maxLen ∧ ∃ g o, (0 < xs.length → A = some ⟨g, o, none⟩) ∧ ∀ j, (h : j < xs.length) → W.cell? ⟨g, o + j, none⟩ = some (.int .i64 xs[j])

theorem int32Info : ∃ ie ze, Tryd.prog.info? 21 = some ie ∧ ie.zero = some ze ∧ ze = .int .i32 0 ∧ ie.size = 1 ∧ ie.bytes = 4 := by
  obtain ⟨i0, hi, hz0, hz1, hz2⟩ := info_parts (show (Tryd.prog.info? 21).map (fun i => (i.zero, i.size, i.bytes)) = some (some (.int .i32 0), 1, 4) by kernel_rfl)
  exact ⟨i0, _, hi, hz0, rfl, hz1, hz2⟩

def RunesPost (w : World) (e : Ending) (w' : World) : Prop := ∃ (v : Value) (zs : List Int), e = .returned v ∧ RdR w' v zs ∧ zs.length ≤ 60 ∧ (∀ z ∈ zs, isScalar z = true) ∧ Below w.heap.size w w'
set_option maxRecDepth 100000 in
set_option maxHeartbeats 4000000 in
theorem runes_calls (w : World) (v : Value) (xs : List Int) (hv : RdN w v xs) : Calls Tryd.prog 9 #[v] w (RunesPost w) := by
  obtain ⟨A, c, rfl, hl, g, o, hA, hx⟩ := hv
  obtain ⟨ie, ze, hie, hze, rfl, i1, i2⟩ := int32Info
  unfold maxLen at hl
  have HA := Lib.hid hA
  have Hx := Lib.hid hx
  clear hA hx
  go_enter Tryd.func9, Tryd.ntmps9
  go_wp2
  go_loopw [3, 4] (fun out i wr => ∃ (k : Nat) (zs : List Int), k ≤ xs.length ∧ k ≤ 60 ∧ i = .int .i64 k ∧ Hid (wr.ownsRow w.heap.size 21 1 out zs.length (zs.map (Value.int .i32)) ∧ zs.length ≤ k ∧ (∀ z ∈ zs, isScalar z = true) ∧ Below w.heap.size w wr)) (fun _ i _ => xs.length - (intOf i).toNat)
  case atStart => exact ⟨0, [], Nat.zero_le _, by omega, rfl, Lib.hid ⟨World.ownsRow_nil _ _ _ _, by simp, by simp, Below.refl _ _⟩⟩
  case round =>
    obtain ⟨k, zs, hk, hk60, rfl, hH⟩ := hrel
    by_cases hlt : k < xs.length
    · by_cases hlt60 : k < 60
      · obtain ⟨ho, hzk, hsc, hB⟩ := hH.out
        clear hH
        have eA := HA.out (by omega)
        have c1 : wr.cell? ⟨g, o + k, none⟩ = some (.int .i64 xs[k]) := by
          have h := Hx.out k hlt
          rw [hB.cell (p := ⟨g, o + k, none⟩) (World.block_lt_of_cell? _ _ h)]; exact h
        subst eA
        obtain ⟨x, hxx⟩ : ∃ x, x = xs[k] := ⟨_, rfl⟩
        rw [← hxx] at c1
        have H := Lib.hid (And.intro ho (And.intro hsc hB))
        clear hxx ho hsc hB
        go_wp2_with fail
        refine (rune_calls _ _).mono ?_
        rintro e w' ⟨⟨c, rfl, hc⟩, rfl⟩
        have hc32 : -2147483648 ≤ c ∧ c ≤ 2147483647 := hc
        clear hc
        cases hs : isScalar c
        · have Hs := Lib.hid hs
          clear hs
          go_wp2_with fail
          refine (refIs_calls _ _).mono ?_
          rintro e w' ⟨rfl, rfl⟩
          rw [Hs.out]
          go_wp2
          go_roundw
          case rel => exact ⟨k + 1, zs, by omega, by omega, by go_num, Lib.hid ⟨H.out.1, by omega, H.out.2.1, H.out.2.2⟩⟩
          case measure => simp [intOf]; omega
        · have Hs := Lib.hid hs
          clear hs
          have hbz : w.heap.size ≤ wr.heap.size := H.out.2.2.size
          go_wp2_with fail
          refine (refIs_calls _ _).mono ?_
          rintro e w' ⟨rfl, rfl⟩
          rw [Hs.out]
          go_wp2_with (at_builtin; refine wpList_append_own _ rfl _ _ 25 rfl w.heap.size 21 ie (.int .i32 0) 1 4 Tryd.underlying25 hie hze i1 i2 rfl (by decide) _ _ _ rfl (H.out.1.alloc _) ⟨wr.heap.size, 0, none⟩ 1 1 [.int .i32 c] rfl rfl ?c1 ?c2 ?c3 ?c4 ?c5 ?_)
          case c1 => intro j u hu; rw [Addr.add_mid, cell_of_row _ _ _ _ _ _ (heap_alloc_new _ _)]; simpa using hu
          case c2 => intro u hu; simp at hu; subst hu; rfl
          case c3 => unfold maxLen; omega
          case c4 => omega
          case c5 => simp; omega
          intro v' w1 hown1 hgrow1 _
          have hB1 : Below w.heap.size w w1 := (H.out.2.2.alloc hbz _).grown hgrow1 (by simp; omega) (fun k' hk' => (H.out.1.lt k' hk').1)
          have HH := Lib.hid (And.intro hown1 hB1)
          clear hown1 hgrow1 hB1
          go_wp2
          go_roundw
          case rel => exact ⟨k + 1, zs ++ [c], by omega, by omega, by go_num, Lib.hid ⟨by simpa using HH.out.1, by simp; omega, fun z hz => by
            rw [List.mem_append, List.mem_singleton] at hz
            rcases hz with hz | rfl
            · exact H.out.2.1 z hz
            · exact Hs.out, HH.out.2⟩⟩
          case measure => simp [intOf]; omega
      · have hd : decide (k < 60) = false := by simpa using hlt60
        have hge : 60 ≤ k := by omega
        go_wp2
        go_ret
        exact ⟨_, zs, rfl, RdR.of_owns hH.out.1 (by have := hH.out.2.1; omega), by have := hH.out.2.1; omega, hH.out.2.2.1, hH.out.2.2.2⟩
    · have hd : decide (k < xs.length) = false := by simpa using hlt
      have hge : xs.length ≤ k := by omega
      go_wp2
      go_ret
      exact ⟨_, zs, rfl, RdR.of_owns hH.out.1 (by have := hH.out.2.1; omega), by have := hH.out.2.1; omega, hH.out.2.2.1, hH.out.2.2.2⟩
end Go.Proofs.YtejikiebhjiocaaDoor
