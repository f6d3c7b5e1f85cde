/- Syllables by reckoning: what one is, its parts, what two make. -/
import Derived.Test.YtejikiebhjiocaaDoorOd
set_option linter.unusedVariables false
set_option linter.unusedSimpArgs false
namespace Go.Proofs.YtejikiebhjiocaaDoor
open Go.RowKit

def hin (c f m : Int) : Bool := decide (f ≤ c ∧ c - f < m)
theorem hin_calls (w : World) (c f m : Int) (hc : InI32 c) (hf : 0 ≤ f) : Calls Tryd.prog 79 #[.int .i32 c, .int .i32 f, .int .i32 m] w fun e w' => e = .returned (.bool (hin c f m)) ∧ w = w' := by
  unfold InI32 at hc
  by_cases h1 : f ≤ c
  · by_cases h2 : c - f < m
    · go_enter Tryd.func79, Tryd.ntmps79
      go_wp2
      go_ret
      refine ⟨?_, rfl⟩
      simp [hin, h1, h2]
    · go_enter Tryd.func79, Tryd.ntmps79
      go_wp2
      go_ret
      refine ⟨?_, rfl⟩
      simp [hin, h1, h2]
  · go_enter Tryd.func79, Tryd.ntmps79
    go_wp2
    go_ret
    simp [hin, h1]
    omega

/-- What one is in a syllable. -/
def kindV (c : Int) : Int := if hin c 4352 19 then 1 else if hin c 4449 21 then 2 else if hin c 4520 27 then 3 else if c < 44032 ∨ 55203 < c then 0 else if (c - 44032) % 28 = 0 then 4 else 5
set_option maxHeartbeats 1000000 in
theorem of_calls (w : World) (c : Int) (hc : InI32 c) : Calls Tryd.prog 65 #[.int .i32 c] w fun e w' => e = .returned (.int .i64 (kindV c)) ∧ w = w' := by
  have hc' := hc
  unfold InI32 at hc'
  have Hc := Lib.hid hc
  obtain ⟨K, hK⟩ : ∃ K, K = kindV c := ⟨_, rfl⟩
  rw [← hK]
  unfold kindV at hK
  clear hc
  cases h1 : hin c 4352 19 <;> cases h2 : hin c 4449 21 <;> cases h3 : hin c 4520 27
  all_goals
    rw [h1, h2, h3] at hK
    simp only [if_true, if_false, Bool.false_eq_true] at hK
    have H1 := Lib.hid h1
    have H2 := Lib.hid h2
    have H3 := Lib.hid h3
    clear h1 h2 h3
  · by_cases h4 : c < 44032
    · rw [if_pos (.inl h4)] at hK
      subst hK
      go_enter Tryd.func65, Tryd.ntmps65
      go_wp2_with (go_at_call 79; refine (hin_calls _ _ _ _ Hc.out (by omega)).mono ?_; rintro e w' ⟨rfl, rfl⟩; (first | rw [H1.out] | rw [H2.out] | rw [H3.out]))
      go_ret
      exact ⟨rfl, rfl⟩
    · by_cases h5 : 55203 < c
      · rw [if_pos (.inr h5)] at hK
        subst hK
        go_enter Tryd.func65, Tryd.ntmps65
        go_wp2_with (go_at_call 79; refine (hin_calls _ _ _ _ Hc.out (by omega)).mono ?_; rintro e w' ⟨rfl, rfl⟩; (first | rw [H1.out] | rw [H2.out] | rw [H3.out]))
        go_ret
        exact ⟨rfl, rfl⟩
      · rw [if_neg (by omega)] at hK
        have h6 : 44032 ≤ c := by omega
        have h7 : c ≤ 55203 := by omega
        by_cases h8 : (c - 44032) % 28 = 0
        · rw [if_pos h8] at hK
          subst hK
          go_enter Tryd.func65, Tryd.ntmps65
          go_wp2_with (go_at_call 79; refine (hin_calls _ _ _ _ Hc.out (by omega)).mono ?_; rintro e w' ⟨rfl, rfl⟩; (first | rw [H1.out] | rw [H2.out] | rw [H3.out]))
          go_ret
          exact ⟨rfl, rfl⟩
        · rw [if_neg h8] at hK
          subst hK
          go_enter Tryd.func65, Tryd.ntmps65
          go_wp2_with (go_at_call 79; refine (hin_calls _ _ _ _ Hc.out (by omega)).mono ?_; rintro e w' ⟨rfl, rfl⟩; (first | rw [H1.out] | rw [H2.out] | rw [H3.out]))
          go_ret
          exact ⟨rfl, rfl⟩
  all_goals
    subst hK
    go_enter Tryd.func65, Tryd.ntmps65
    go_wp2_with (go_at_call 79; refine (hin_calls _ _ _ _ Hc.out (by omega)).mono ?_; rintro e w' ⟨rfl, rfl⟩; (first | rw [H1.out] | rw [H2.out] | rw [H3.out]))
    go_ret
    exact ⟨rfl, rfl⟩
theorem kind_calls (w : World) (c : Int) (hc : InI32 c) : Calls Tryd.prog 51 #[.int .i32 c] w fun e w' => e = .returned (.int .i64 (kindV c)) ∧ w = w' := by
  have Hc := Lib.hid hc
  clear hc
  obtain ⟨K, hK⟩ : ∃ K, K = kindV c := ⟨_, rfl⟩
  have HK := Lib.hid hK
  rw [← hK]
  have hb : 0 ≤ K ∧ K ≤ 5 := by rw [hK]; unfold kindV; repeat' split <;> omega
  clear hK
  go_enter Tryd.func51, Tryd.ntmps51
  go_wp2_with (go_at_call 65; refine (of_calls _ _ Hc.out).mono ?_; rintro e w' ⟨rfl, rfl⟩; rw [← HK.out])
  go_ret
  exact ⟨rfl, rfl⟩

/-- The parts of a syllable. -/
def splitV (c : Int) : List Int :=
  if kindV c = 4 then [4352 + (c - 44032) / 588, 4449 + (c - 44032) % 588 / 28]
  else if kindV c = 5 then [4352 + (c - 44032) / 588, 4449 + (c - 44032) % 588 / 28, 4519 + (c - 44032) % 28] else []
theorem kindV_syl {c : Int} (h : kindV c = 4 ∨ kindV c = 5) : 44032 ≤ c ∧ c ≤ 55203 := by
  unfold kindV at h
  repeat' split at h <;> omega
set_option maxRecDepth 100000 in
set_option maxHeartbeats 2000000 in
theorem split_calls (w : World) (c : Int) (hc : InI32 c) : Calls Tryd.prog 43 #[.int .i32 c] w (RowPost w (splitV c)) := by
  have hc' := hc
  unfold InI32 at hc'
  obtain ⟨ie, ze, hie, hze, rfl, i1, i2⟩ := int32Info
  have Hc := Lib.hid hc
  clear hc
  by_cases h4 : kindV c = 4
  · have hr := kindV_syl (.inl h4)
    have hs : splitV c = [4352 + (c - 44032) / 588, 4449 + (c - 44032) % 588 / 28] := by unfold splitV; rw [if_pos h4]
    have H4 := Lib.hid h4
    rw [hs]
    clear hs h4
    go_enter Tryd.func43, Tryd.ntmps43
    go_wp2_with (first
      | (go_at_call 65; refine (of_calls _ _ Hc.out).mono ?_; rintro e w' ⟨rfl, rfl⟩; rw [H4.out])
      | (at_builtin; refine wpList_append_own _ rfl _ _ 25 rfl w.heap.size 21 ie (.int .i32 0) 1 4 Tryd.underlying25 hie hze i1 i2 rfl (by decide) _ _ _ rfl (World.ownsRow_nil _ _ _ _) ⟨w.heap.size, 0, none⟩ 2 2 [.int .i32 (4352 + (c - 44032) / 588), .int .i32 (4449 + (c - 44032) % 588 / 28)] rfl rfl ?c1 ?c2 ?c3 ?c4 ?c5 ?_))
    try case c1 =>
      intro j u hu
      rw [Addr.add_mid, cell_of_row _ _ _ _ _ _ (heap_alloc_new _ _)]
      simpa using hu
    try case c2 => (intro u hu; simp at hu; (first | (rcases hu with rfl | rfl <;> rfl) | (subst hu; rfl)))
    try case c3 => (unfold maxLen; omega)
    try case c4 => omega
    try case c5 => (first | omega | (simp; done) | (simp; omega))
    intro v' w1 hown hgrow _
    have HO := Lib.hid (And.intro hown (((Below.refl w.heap.size w).alloc (Nat.le_refl _) _).grown hgrow (by simp) (fun k' hk' => by simp [Value.ownBlock] at hk')))
    clear hown hgrow
    go_wp2
    go_ret
    exact ⟨_, rfl, RdR.of_owns (xs := [4352 + (c - 44032) / 588, 4449 + (c - 44032) % 588 / 28]) HO.out.1 (by simp), HO.out.2⟩
  · by_cases h5 : kindV c = 5
    · have hr := kindV_syl (.inr h5)
      have hs : splitV c = [4352 + (c - 44032) / 588, 4449 + (c - 44032) % 588 / 28, 4519 + (c - 44032) % 28] := by unfold splitV; rw [if_neg h4, if_pos h5]
      have H5 := Lib.hid h5
      rw [hs]
      clear hs h4 h5
      go_enter Tryd.func43, Tryd.ntmps43
      go_wp2_with (first
        | (go_at_call 65; refine (of_calls _ _ Hc.out).mono ?_; rintro e w' ⟨rfl, rfl⟩; rw [H5.out])
        | (at_builtin; refine wpList_append_own _ rfl _ _ 25 rfl w.heap.size 21 ie (.int .i32 0) 1 4 Tryd.underlying25 hie hze i1 i2 rfl (by decide) _ _ _ rfl (World.ownsRow_nil _ _ _ _) ⟨w.heap.size, 0, none⟩ 2 2 [.int .i32 (4352 + (c - 44032) / 588), .int .i32 (4449 + (c - 44032) % 588 / 28)] rfl rfl ?c1 ?c2 ?c3 ?c4 ?c5 ?_))
      try case c1 =>
        intro j u hu
        rw [Addr.add_mid, cell_of_row _ _ _ _ _ _ (heap_alloc_new _ _)]
        simpa using hu
      try case c2 => (intro u hu; simp at hu; (first | (rcases hu with rfl | rfl <;> rfl) | (subst hu; rfl)))
      try case c3 => (unfold maxLen; omega)
      try case c4 => omega
      try case c5 => (first | omega | (simp; done) | (simp; omega))
      intro v' w1 hown hgrow _
      have HO := Lib.hid (And.intro hown (((Below.refl w.heap.size w).alloc (Nat.le_refl _) _).grown hgrow (by simp) (fun k' hk' => by simp [Value.ownBlock] at hk')))
      have hsz1 : w.heap.size ≤ w1.heap.size := HO.out.2.size
      clear hown hgrow
      go_wp2_with (at_builtin; refine wpList_append_own _ rfl _ _ 25 rfl w.heap.size 21 ie (.int .i32 0) 1 4 Tryd.underlying25 hie hze i1 i2 rfl (by decide) _ _ _ rfl (HO.out.1.alloc _) ⟨w1.heap.size, 0, none⟩ 1 1 [.int .i32 (4519 + (c - 44032) % 28)] rfl rfl ?c1 ?c2 ?c3 ?c4 ?c5 ?_)
      try case c1 =>
        intro j u hu
        rw [Addr.add_mid, cell_of_row _ _ _ _ _ _ (heap_alloc_new _ _)]
        simpa using hu
      try case c2 => (intro u hu; simp at hu; (first | (rcases hu with rfl | rfl <;> rfl) | (subst hu; rfl)))
      try case c3 => (unfold maxLen; omega)
      try case c4 => omega
      try case c5 => (first | omega | (simp; done) | (simp; omega))
      intro v2 w2 hown2 hgrow2 _
      have HO2 := Lib.hid (And.intro hown2 ((HO.out.2.alloc hsz1 _).grown hgrow2 (by simp; omega) (fun k' hk' => (HO.out.1.lt k' hk').1)))
      clear hown2 hgrow2
      go_wp2
      go_ret
      exact ⟨_, rfl, RdR.of_owns (xs := [4352 + (c - 44032) / 588, 4449 + (c - 44032) % 588 / 28, 4519 + (c - 44032) % 28]) HO2.out.1 (by simp), HO2.out.2⟩
    · have hs : splitV c = [] := by unfold splitV; rw [if_neg h4, if_neg h5]
      obtain ⟨K, hK⟩ : ∃ K, K = kindV c := ⟨_, rfl⟩
      rw [← hK] at h4 h5
      have hb : 0 ≤ K ∧ K ≤ 5 := by rw [hK]; unfold kindV; repeat' split <;> omega
      have HK := Lib.hid hK
      rw [hs]
      have b4 : (K == 4) = false := by simpa using h4
      have b5 : (K == 5) = false := by simpa using h5
      clear hs hK
      go_enter Tryd.func43, Tryd.ntmps43
      go_wp2_with (go_at_call 65; refine (of_calls _ _ Hc.out).mono ?_; rintro e w' ⟨rfl, rfl⟩; rw [← HK.out])
      go_ret
      exact ⟨_, rfl, ⟨none, 0, rfl, by simp, fun j hj => absurd hj (by simp)⟩, Below.refl _ _⟩
end Go.Proofs.YtejikiebhjiocaaDoor
