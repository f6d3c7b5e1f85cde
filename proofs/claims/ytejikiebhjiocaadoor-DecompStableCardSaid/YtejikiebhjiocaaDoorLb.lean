/- DecompStable: the walk. -/
import Derived.Test.YtejikiebhjiocaaDoorLa
set_option linter.unusedVariables false
set_option linter.unusedSimpArgs false
namespace Go.Proofs.YtejikiebhjiocaaDoor
open Go.RowKit

theorem ordL_nil (f : Int → Int) : ordL f [] = [] := rfl
theorem stab_zero {f : Int → Int} {L M : List Int} {k : Nat} (hk : k < L.length) (hl : M.length = L.length) (h : M.drop k = ordL f (L.drop k)) (hz : f L[k] = 0) : M[k] = L[k] ∧ M.drop (k + 1) = ordL f (L.drop (k + 1)) := by
  have e := ordL_zero f L[k] hz [] (L.drop (k + 1))
  rw [List.nil_append, ← List.drop_eq_getElem_cons hk, ← h, List.drop_eq_getElem_cons (by omega : k < M.length), ordL_nil, List.nil_append] at e
  exact ⟨(List.cons.inj e).1, (List.cons.inj e).2⟩
theorem stab_run {f : Int → Int} {L M : List Int} {k t : Nat} (hkt : k ≤ t) (ht : t ≤ L.length) (h : M.drop k = ordL f (L.drop k)) (hs : (h : t < L.length) → f L[t] = 0) :
    (M.drop k).take (t - k) = ordL f ((L.drop k).take (t - k)) ∧ M.drop t = ordL f (L.drop t) := by
  have e1 : L.drop k = (L.drop k).take (t - k) ++ L.drop t := by
    have : L.drop t = (L.drop k).drop (t - k) := by rw [List.drop_drop]; congr 1; omega
    rw [this, List.take_append_drop]
  have hl : ((L.drop k).take (t - k)).length = t - k := by simp; omega
  have e2 : ordL f (L.drop k) = ordL f ((L.drop k).take (t - k)) ++ ordL f (L.drop t) := by
    by_cases hlt : t < L.length
    · have h3 := ordL_zero f L[t] (hs hlt) ((L.drop k).take (t - k)) (L.drop (t + 1))
      have h4 := ordL_zero f L[t] (hs hlt) [] (L.drop (t + 1))
      rw [List.nil_append, ordL_nil, List.nil_append] at h4
      rw [← h4, ← List.drop_eq_getElem_cons hlt, ← e1] at h3
      exact h3
    · have : L.drop t = [] := List.drop_eq_nil_of_le (by omega)
      rw [this, List.append_nil] at e1
      rw [this, ordL_nil, List.append_nil, ← e1]
  have h5 : M.drop t = (M.drop k).drop (t - k) := by rw [List.drop_drop]; congr 1; omega
  rw [h5, h, e2]
  have hl2 : (ordL f ((L.drop k).take (t - k))).length = t - k := by rw [ordL_length, hl]
  exact ⟨List.take_left' hl2, List.drop_left' hl2⟩
/-- Those of a class, from a place to another one. -/
def filK (f : Int → Int) (q : Int) (l : List Int) (k d : Nat) : List Int := ((l.drop k).take (d - k)).filter (fun x => decide (f x = q))
theorem filK_zero (f : Int → Int) (q : Int) (l : List Int) (k : Nat) : filK f q l k k = [] := by simp [filK]
theorem filK_succ (f : Int → Int) (q : Int) (l : List Int) (k d : Nat) (hk : k ≤ d) (h : d < l.length) : filK f q l k (d + 1) = if f l[d] = q then filK f q l k d ++ [l[d]] else filK f q l k d := by
  have : (l.drop k).take (d + 1 - k) = (l.drop k).take (d - k) ++ [l[d]] := by
    have e : d + 1 - k = (d - k) + 1 := by omega
    rw [e, List.take_succ_eq_append_getElem (by simp; omega)]
    congr 2
    rw [List.getElem_drop]
    congr 1; omega
  unfold filK
  rw [this, List.filter_append]
  by_cases hq : f l[d] = q <;> simp [hq]
theorem filK_len (f : Int → Int) (q : Int) (l : List Int) (k d : Nat) : (filK f q l k d).length ≤ d := by
  have h1 := List.length_filter_le (fun x => decide (f x = q)) ((l.drop k).take (d - k))
  have h2 : ((l.drop k).take (d - k)).length ≤ d := by simp; omega
  exact Nat.le_trans h1 h2
theorem filK_run {f : Int → Int} {q : Int} {L M : List Int} {k d : Nat} (h : (M.drop k).take (d - k) = ordL f ((L.drop k).take (d - k))) : filK f q M k d = filK f q L k d := by
  unfold filK; rw [h, ordL_filter]

/-- Two rows of the call's own that share nothing. -/
def Rows2 (W : World) (base : Nat) (a b : Value) (xs ys : List Int) : Prop :=
  W.ownsRow base 21 1 a xs.length (xs.map (Value.int .i32)) ∧ W.ownsRow base 21 1 b ys.length (ys.map (Value.int .i32)) ∧ (a.ownBlock = none ∨ a.ownBlock ≠ b.ownBlock)
theorem Rows2.symm {W : World} {base : Nat} {a b : Value} {xs ys : List Int} (h : Rows2 W base a b xs ys) : Rows2 W base b a ys xs := ⟨h.2.1, h.1, by
  rcases h.2.2 with h1 | h1
  · rw [h1]; cases b.ownBlock <;> simp
  · exact .inr fun e => h1 e.symm⟩
theorem Rows2.left {W w' : World} {base g cap n : Nat} {a b : Value} {xs ys : List Int} {x : Int} {o : Obj} (h : Rows2 W base a b xs ys) (hn : n = xs.length + 1)
    (hown : w'.ownsRow base 21 1 (.slice (some ⟨g, 0, none⟩) n cap) n (xs.map (Value.int .i32) ++ [.int .i32 x])) (hgrow : (W.alloc o).grownBy w' a.ownBlock) (hl : a.ownBlock = some g ∨ g = W.heap.size + 1) :
    Rows2 w' base (.slice (some ⟨g, 0, none⟩) n cap) b (xs ++ [x]) ys := by
  subst hn
  refine ⟨by simpa using hown, (h.2.1.alloc o).kept hgrow ?_, ?_⟩
  · rcases h.2.2 with h1 | h1
    · rw [h1]; cases b.ownBlock <;> simp
    · exact .inr fun e => h1 e.symm
  · right
    show some g ≠ b.ownBlock
    rcases hl with hl | hl
    · rw [← hl]
      rcases h.2.2 with h1 | h1
      · rw [hl] at h1; cases h1
      · exact h1
    · intro e
      have := (h.2.1.lt g e.symm).2
      omega
theorem Rows2.nil (W : World) (base : Nat) : Rows2 W base (.slice none 0 0) (.slice none 0 0) [] [] := ⟨World.ownsRow_nil _ _ _ _, World.ownsRow_nil _ _ _ _, .inl rfl⟩
theorem Rows2.drewN {W : World} {base : Nat} {a b : Value} {xs ys : List Int} (h : Rows2 W base a b xs ys) (n : Nat) : Rows2 (W.drewN n) base a b xs ys := h

set_option maxRecDepth 100000 in
set_option maxHeartbeats 8000000 in
theorem stable_calls (w : World) (v : Value) (xs : List Int) (hv : RdN w v xs) (hsp : SpaceIs w) : Calls Tryd.prog 3 #[v] w (TruePost w) := by
  obtain ⟨ie, ze, hie, hze, rfl, i1, i2⟩ := int32Info
  have HV := Lib.hid (And.intro hv hsp)
  clear hv hsp
  go_enter Tryd.func3, Tryd.ntmps3
  go_wp2_with fail
  refine (build_calls _ HV.out.2).mono ?_
  rintro e w1 ⟨p, rfl, b1, hU⟩
  have H1 := Lib.hid (And.intro b1 hU)
  clear b1 hU
  go_wp2_with fail
  have hv1 : RdN w1 v xs := by
    obtain ⟨A, c, e1, e2, g, o, e3, e4⟩ := HV.out.1
    exact ⟨A, c, e1, e2, g, o, e3, fun j hj => by have h := e4 j hj; exact (H1.out.1.cell (p := ⟨g, o + j, none⟩) (World.block_lt_of_cell? _ _ h)).trans h⟩
  refine (runes_calls _ _ _ hv1).mono ?_
  rintro e w2 ⟨v4, L, rfl, rL, hL60, hLs, b2⟩
  have H2 := Lib.hid (And.intro rL (And.intro (H1.out.1.trans (b2.mono H1.out.1.size)) (H1.out.2.below b2 (Nat.le_refl _))))
  clear hv1 b2
  obtain ⟨A4, d4, rfl, _⟩ := rL
  go_wp2_with fail
  refine (order_calls _ p tabD _ L H2.out.2.2 H2.out.1).mono ?_
  rintro e W0 ⟨v5, rfl, rM, b3⟩
  have rL := H2.out.1.below b3 (Nat.le_refl _)
  have hU := H2.out.2.2.below b3 (Nat.le_refl _)
  have bW := H2.out.2.1.trans (b3.mono H2.out.2.1.size)
  obtain ⟨f, hf⟩ : ∃ f, f = clsV tabD := ⟨_, rfl⟩
  have hf0 : ∀ c, 0 ≤ f c ∧ f c ≤ 254 := fun c => by rw [hf]; exact clsV_ge c
  rw [← hf] at rM
  obtain ⟨M, hM⟩ : ∃ M, M = ordL f L := ⟨_, rfl⟩
  have hML : M.length = L.length := by rw [hM, ordL_length]
  rw [← hM] at rM
  obtain ⟨A4', d4', e4', _, g4, o4, a4, x4⟩ := rL.open
  cases e4'
  obtain ⟨A5, d5, rfl, _, g5, o5, a5, x5⟩ := rM.open
  rw [hML]
  have HF := Lib.hid (And.intro hf hf0)
  have HR := Lib.hid (And.intro hML (And.intro x4 (And.intro x5 (And.intro hU bW))))
  have HA := Lib.hid (And.intro a4 a5)
  have hn : L.length ≤ 60 := hL60
  have HM := Lib.hid hM
  clear b3 rL rM hU bW x4 x5 a4 a5 hf hf0 hM hML hLs hL60
  go_wp2
  go_loopw [6] (fun fr wr => ∃ k : Nat, k ≤ L.length ∧ fr = .int .i64 k ∧ Hid (Below W0.heap.size W0 wr ∧ M.drop k = ordL f (L.drop k))) (fun fr _ => L.length - (intOf fr).toNat)
  case atStart => exact ⟨0, Nat.zero_le _, rfl, Lib.hid ⟨Below.refl _ _, by simpa using HM.out⟩⟩
  case round =>
    obtain ⟨k, hk, rfl, hH⟩ := hrel
    by_cases hlt : k < L.length
    · have hMk : k < M.length := by have := HR.out.1; omega
      have eA4 := HA.out.1 (by omega)
      have eA5 := HA.out.2 (by omega)
      subst eA4 eA5
      obtain ⟨hB, hdr⟩ := hH.out
      have c1 : wr.cell? ⟨g4, o4 + k, none⟩ = some (.int .i32 L[k]) := by
        have h := HR.out.2.1 k hlt
        exact (hB.cell (p := ⟨g4, o4 + k, none⟩) (World.block_lt_of_cell? _ _ h)).trans h
      have c2 : wr.cell? ⟨g5, o5 + k, none⟩ = some (.int .i32 M[k]) := by
        have h := HR.out.2.2.1 k hMk
        exact (hB.cell (p := ⟨g5, o5 + k, none⟩) (World.block_lt_of_cell? _ _ h)).trans h
      obtain ⟨x, hx⟩ : ∃ x, x = L[k] := ⟨_, rfl⟩
      obtain ⟨y, hy⟩ : ∃ y, y = M[k] := ⟨_, rfl⟩
      rw [← hx] at c1
      rw [← hy] at c2
      obtain ⟨fx, hfx⟩ : ∃ fx, fx = f x := ⟨_, rfl⟩
      have hfr := HF.out.2 x
      rw [← hfx] at hfr
      have Hxy := Lib.hid (And.intro hx (And.intro hy hfx))
      have HB := Lib.hid (And.intro hB hdr)
      clear hx hy hfx hB hdr hH
      by_cases hz : fx = 0
      · subst hz
        have hst := stab_zero hlt HR.out.1 HB.out.2 (by rw [← Hxy.out.1, ← Hxy.out.2.2])
        obtain rfl : y = x := by rw [Hxy.out.1, Hxy.out.2.1]; exact hst.1
        have Hst := Lib.hid hst.2
        clear hst
        go_wp2_with fail
        refine (class_calls _ p tabD _ (HR.out.2.2.2.1.below HB.out.1 (Nat.le_refl _))).mono ?_
        rintro e w5 ⟨rfl, m5, hw5⟩
        rw [← HF.out.1, ← Hxy.out.2.2]
        have hB5 : Below W0.heap.size W0 w5 := by rw [hw5]; exact below_drewN HB.out.1
        have c1' : w5.cell? ⟨g4, o4 + k, none⟩ = some (.int .i32 y) := by rw [hw5]; exact c1
        have c2' : w5.cell? ⟨g5, o5 + k, none⟩ = some (.int .i32 y) := by rw [hw5]; exact c2
        have HB5 := Lib.hid hB5
        clear hw5 hB5 c1 c2
        go_wp2
        go_quiet (fail)
        go_wp2
        go_roundw
        case rel => exact ⟨k + 1, by omega, by go_num, Lib.hid ⟨below_drewN HB5.out, Hst.out⟩⟩
        case measure => simp [intOf]; omega
      · have hz1 : (fx == 0) = false := by simpa using hz
        have hp : 0 < fx := by omega
        go_wp2_with fail
        refine (class_calls _ p tabD _ (HR.out.2.2.2.1.below HB.out.1 (Nat.le_refl _))).mono ?_
        rintro e w5 ⟨rfl, m5, hw5⟩
        rw [← HF.out.1, ← Hxy.out.2.2]
        have hB5 : Below W0.heap.size W0 w5 := by rw [hw5]; exact below_drewN HB.out.1
        have HB5 := Lib.hid (And.intro hB5 HB.out.2)
        have Hp0 := Lib.hid (show 0 < f L[k] by rw [← Hxy.out.1, ← Hxy.out.2.2]; exact hp)
        clear hw5 hB5 c1 c2 HB
        go_wp2
        go_loopw [7] (fun tv wr => ∃ t : Nat, k ≤ t ∧ t ≤ L.length ∧ tv = .int .i64 t ∧ Hid (Below W0.heap.size W0 wr)) (fun tv _ => L.length - (intOf tv).toNat)
        case atStart => exact ⟨k, Nat.le_refl _, hk, rfl, Lib.hid HB5.out.1⟩
        case round =>
          obtain ⟨t, hkt, htL, rfl, hH⟩ := hrel
          by_cases htl : t < L.length
          · have hct := HR.out.2.1 t htl
            have c3 : wr.cell? ⟨g4, o4 + t, none⟩ = some (.int .i32 L[t]) := (hH.out.cell (p := ⟨g4, o4 + t, none⟩) (World.block_lt_of_cell? _ _ hct)).trans hct
            obtain ⟨z, hz'⟩ : ∃ z, z = L[t] := ⟨_, rfl⟩
            rw [← hz'] at c3
            obtain ⟨fz, hfz⟩ : ∃ fz, fz = f z := ⟨_, rfl⟩
            have hfr2 := HF.out.2 z
            rw [← hfz] at hfr2
            have Hz := Lib.hid (And.intro hz' hfz)
            clear hct hz' hfz
            by_cases hpos : 0 < fz
            · go_wp2_with fail
              refine (class_calls _ p tabD _ (HR.out.2.2.2.1.below hH.out (Nat.le_refl _))).mono ?_
              rintro e w6 ⟨rfl, m6, hw6⟩
              rw [← HF.out.1, ← Hz.out.2]
              have HB6 : Hid (Below W0.heap.size W0 w6) := Lib.hid (by rw [hw6]; exact below_drewN hH.out)
              clear hw6 c3
              go_wp2
              go_roundw
              case rel => exact ⟨t + 1, by omega, by omega, by go_num, HB6⟩
              case measure => simp [intOf]; omega
            · have Hex := Lib.hid (show (h : t < L.length) → f L[t] = 0 from fun _ => by rw [← Hz.out.1, ← Hz.out.2]; omega)
              have hktl : k < t := by
                rcases Nat.lt_or_ge k t with h | h
                · exact h
                · obtain rfl : k = t := by omega
                  have h1 := Hex.out htl
                  have h2 := Hp0.out
                  omega
              go_wp2_with fail
              refine (class_calls _ p tabD _ (HR.out.2.2.2.1.below hH.out (Nat.le_refl _))).mono ?_
              rintro e w6 ⟨rfl, m6, hw6⟩
              rw [← HF.out.1, ← Hz.out.2]
              have HB6 : Hid (Below W0.heap.size W0 w6) := Lib.hid (by rw [hw6]; exact below_drewN hH.out)
              clear hw6 c3 hH
              have hH := HB6
              obtain ⟨wr, hwr⟩ : ∃ wr, wr = w6 := ⟨_, rfl⟩
              rw [← hwr] at hH ⊢
              clear hwr HB6
              -- loops over the classes
              have Hst := Lib.hid (stab_run hkt htL HB5.out.2 Hex.out)
              go_wp2
              obtain ⟨we, hwe⟩ : ∃ we : World, we = wr := ⟨_, rfl⟩
              rw [← hwe] at hH ⊢
              clear hwe
              go_loopw [8] (fun q wr => ∃ kk : Nat, 1 ≤ kk ∧ kk ≤ 256 ∧ q = .int .i64 kk ∧ Hid (Below W0.heap.size W0 wr)) (fun q _ => 256 - (intOf q).toNat)
              case atStart => exact ⟨1, by omega, by omega, rfl, Lib.hid hH.out⟩
              case round =>
                obtain ⟨kk, h1k, hk256, rfl, hK⟩ := hrel
                by_cases hkl : kk < 256
                · have hkb : decide ((kk : Int) < 256) = true := by simp; omega
                  go_wp2
                  obtain ⟨wf, hwf⟩ : ∃ wf : World, wf = wr := ⟨_, rfl⟩
                  rw [← hwf] at hK ⊢
                  clear hwf
                  go_loopw [9, 10, 11] (fun a b i wr => ∃ d : Nat, k ≤ d ∧ d ≤ t ∧ i = .int .i64 d ∧ Hid (Rows2 wr W0.heap.size a b (filK f kk L k d) (filK f kk M k d) ∧ Below W0.heap.size W0 wr)) (fun _ _ i _ => t - (intOf i).toNat)
                  case atStart => exact ⟨k, Nat.le_refl _, hkt, rfl, Lib.hid ⟨by rw [filK_zero, filK_zero]; exact Rows2.nil _ _, hK.out⟩⟩
                  case round =>
                    obtain ⟨d, hkd, hd, rfl, HQ⟩ := hrel
                    by_cases hdl : d < t
                    · have hL : d < L.length := by omega
                      have hM : d < M.length := by have := HR.out.1; omega
                      have hc1 := HR.out.2.1 d hL
                      have hc2 := HR.out.2.2.1 d hM
                      have hs1 := filK_succ f kk L k d hkd hL
                      have hs2 := filK_succ f kk M k d hkd hM
                      obtain ⟨x2, hx2⟩ : ∃ x2, x2 = L[d] := ⟨_, rfl⟩
                      obtain ⟨y2, hy2⟩ : ∃ y2, y2 = M[d] := ⟨_, rfl⟩
                      rw [← hx2] at hc1 hs1
                      rw [← hy2] at hc2 hs2
                      obtain ⟨fx2, hfx2⟩ : ∃ z, z = f x2 := ⟨_, rfl⟩
                      obtain ⟨fy2, hfy2⟩ : ∃ z, z = f y2 := ⟨_, rfl⟩
                      rw [← hfx2] at hs1
                      rw [← hfy2] at hs2
                      have c1 : wr.cell? ⟨g4, o4 + d, none⟩ = some (.int .i32 x2) := (HQ.out.2.cell (p := ⟨g4, o4 + d, none⟩) (World.block_lt_of_cell? _ _ hc1)).trans hc1
                      have c2 : wr.cell? ⟨g5, o5 + d, none⟩ = some (.int .i32 y2) := (HQ.out.2.cell (p := ⟨g5, o5 + d, none⟩) (World.block_lt_of_cell? _ _ hc2)).trans hc2
                      have hla := filK_len f kk L k d
                      have hlb := filK_len f kk M k d
                      have hlt2 : d < t := by omega
                      by_cases hqx : fx2 = kk
                      · by_cases hqy : fy2 = kk
                        · skip
                          rw [if_pos hqx] at hs1
                          rw [if_pos hqy] at hs2
                          have hbx : (fx2 == (kk : Int)) = true := by simpa using hqx
                          have hby : (fy2 == (kk : Int)) = true := by simpa using hqy
                          have HX := Lib.hid (And.intro hx2 (And.intro hy2 (And.intro hfx2 (And.intro hfy2 (And.intro hc2 (And.intro hs1 hs2))))))
                          clear hx2 hy2 hfx2 hfy2 hc1 hc2 hs1 hs2 hqx hqy
                          go_wp2_with fail
                          refine (class_calls _ p tabD _ (HR.out.2.2.2.1.below HQ.out.2 (Nat.le_refl _))).mono ?_
                          rintro e w6 ⟨rfl, m6, hw6⟩
                          rw [← HF.out.1, ← HX.out.2.2.1]
                          have HQ6 : Hid (Rows2 w6 W0.heap.size u9 u10 (filK f kk L k d) (filK f kk M k d) ∧ Below W0.heap.size W0 w6) := Lib.hid (by rw [hw6]; exact ⟨HQ.out.1.drewN _, below_drewN HQ.out.2⟩)
                          have c1' : w6.cell? ⟨g4, o4 + d, none⟩ = some (.int .i32 x2) := by rw [hw6]; exact c1
                          have c2' : w6.cell? ⟨g5, o5 + d, none⟩ = some (.int .i32 y2) := by rw [hw6]; exact c2
                          have hsz6 : W0.heap.size ≤ w6.heap.size := HQ6.out.2.size
                          clear hw6 c1 c2
                          go_wp2_with (at_builtin; refine wpList_append_lies _ rfl _ _ 25 rfl W0.heap.size 21 ie (.int .i32 0) 1 4 Tryd.underlying25 hie hze i1 i2 rfl (by decide) _ _ _ rfl (HQ6.out.1.1.alloc _) ⟨w6.heap.size, 0, none⟩ 1 1 [.int .i32 x2] rfl rfl ?c1 ?c2 ?c0 ?c3 ?c4 ?c5 (w6.heap.size + 1) ?c6 ?_)
                          try case c1 => (intro j u hu; rw [Addr.add_mid, cell_of_row _ _ _ _ _ _ (heap_alloc_new _ _)]; simpa using hu)
                          try case c2 => (first | rfl | (intro u hu; simp at hu; subst hu; rfl))
                          try case c0 => omega
                          try case c3 => (unfold maxLen; omega)
                          try case c4 => omega
                          try case c5 => (first | omega | (simp; omega))
                          try case c6 => simp
                          intro ga capa w7 hown7 hgrow7 hlie7 _
                          have hr7 := HQ6.out.1.left (x := x2) (o := .cells #[.int .i32 x2] 21) rfl hown7 hgrow7 hlie7
                          have hb7 : Below W0.heap.size W0 w7 := (HQ6.out.2.alloc hsz6 _).grown hgrow7 (by simp; omega) (fun k' hk' => (HQ6.out.1.1.lt k' hk').1)
                          have c2'' : w7.cell? ⟨g5, o5 + d, none⟩ = some (.int .i32 y2) := by
                            have h := HX.out.2.2.2.2.1
                            exact (hb7.cell (p := ⟨g5, o5 + d, none⟩) (World.block_lt_of_cell? _ _ h)).trans h
                          have HQ7 := Lib.hid (And.intro hr7 hb7)
                          clear hown7 hgrow7 hlie7 hr7 hb7 c1' c2'
                          have hsz7 : W0.heap.size ≤ w7.heap.size := HQ7.out.2.size
                          go_wp2_with fail
                          refine (class_calls _ p tabD _ (HR.out.2.2.2.1.below HQ7.out.2 (Nat.le_refl _))).mono ?_
                          rintro e w8 ⟨rfl, m8, hw8⟩
                          rw [← HF.out.1, ← HX.out.2.2.2.1]
                          have HQ8 : Hid (Rows2 w8 W0.heap.size (.slice (some ⟨ga, 0, none⟩) ((filK f kk L k d).length + 1) capa) u10 (filK f kk L k d ++ [x2]) (filK f kk M k d) ∧ Below W0.heap.size W0 w8) := Lib.hid (by rw [hw8]; exact ⟨HQ7.out.1.drewN _, below_drewN HQ7.out.2⟩)
                          have c3' : w8.cell? ⟨g5, o5 + d, none⟩ = some (.int .i32 y2) := by rw [hw8]; exact c2''
                          have hsz8 : W0.heap.size ≤ w8.heap.size := HQ8.out.2.size
                          clear hw8 c2''
                          go_wp2_with (at_builtin; refine wpList_append_lies _ rfl _ _ 25 rfl W0.heap.size 21 ie (.int .i32 0) 1 4 Tryd.underlying25 hie hze i1 i2 rfl (by decide) _ _ _ rfl (HQ8.out.1.2.1.alloc _) ⟨w8.heap.size, 0, none⟩ 1 1 [.int .i32 y2] rfl rfl ?c1 ?c2 ?c0 ?c3 ?c4 ?c5 (w8.heap.size + 1) ?c6 ?_)
                          try case c1 => (intro j u hu; rw [Addr.add_mid, cell_of_row _ _ _ _ _ _ (heap_alloc_new _ _)]; simpa using hu)
                          try case c2 => (first | rfl | (intro u hu; simp at hu; subst hu; rfl))
                          try case c0 => omega
                          try case c3 => (unfold maxLen; omega)
                          try case c4 => omega
                          try case c5 => (first | omega | (simp; omega))
                          try case c6 => simp
                          intro gb capb w9 hown9 hgrow9 hlie9 _
                          have hr9 := (HQ8.out.1.symm.left (x := y2) (o := .cells #[.int .i32 y2] 21) rfl hown9 hgrow9 hlie9).symm
                          have hb9 : Below W0.heap.size W0 w9 := (HQ8.out.2.alloc hsz8 _).grown hgrow9 (by simp; omega) (fun k' hk' => (HQ8.out.1.2.1.lt k' hk').1)
                          have HQ9 := Lib.hid (And.intro hr9 hb9)
                          clear hown9 hgrow9 hlie9 hr9 hb9 c3'
                          go_wp2
                          go_roundw
                          case rel =>
                            refine ⟨d + 1, by omega, by omega, by go_num, Lib.hid ?_⟩
                            rw [HX.out.2.2.2.2.2.1, HX.out.2.2.2.2.2.2]
                            exact HQ9.out
                          case measure => simp [intOf]; omega
                        · skip
                          rw [if_pos hqx] at hs1
                          rw [if_neg hqy] at hs2
                          have hbx : (fx2 == (kk : Int)) = true := by simpa using hqx
                          have hby : (fy2 == (kk : Int)) = false := by simpa using hqy
                          have HX := Lib.hid (And.intro hx2 (And.intro hy2 (And.intro hfx2 (And.intro hfy2 (And.intro hc2 (And.intro hs1 hs2))))))
                          clear hx2 hy2 hfx2 hfy2 hc1 hc2 hs1 hs2 hqx hqy
                          go_wp2_with fail
                          refine (class_calls _ p tabD _ (HR.out.2.2.2.1.below HQ.out.2 (Nat.le_refl _))).mono ?_
                          rintro e w6 ⟨rfl, m6, hw6⟩
                          rw [← HF.out.1, ← HX.out.2.2.1]
                          have HQ6 : Hid (Rows2 w6 W0.heap.size u9 u10 (filK f kk L k d) (filK f kk M k d) ∧ Below W0.heap.size W0 w6) := Lib.hid (by rw [hw6]; exact ⟨HQ.out.1.drewN _, below_drewN HQ.out.2⟩)
                          have c1' : w6.cell? ⟨g4, o4 + d, none⟩ = some (.int .i32 x2) := by rw [hw6]; exact c1
                          have c2' : w6.cell? ⟨g5, o5 + d, none⟩ = some (.int .i32 y2) := by rw [hw6]; exact c2
                          have hsz6 : W0.heap.size ≤ w6.heap.size := HQ6.out.2.size
                          clear hw6 c1 c2
                          go_wp2_with (at_builtin; refine wpList_append_lies _ rfl _ _ 25 rfl W0.heap.size 21 ie (.int .i32 0) 1 4 Tryd.underlying25 hie hze i1 i2 rfl (by decide) _ _ _ rfl (HQ6.out.1.1.alloc _) ⟨w6.heap.size, 0, none⟩ 1 1 [.int .i32 x2] rfl rfl ?c1 ?c2 ?c0 ?c3 ?c4 ?c5 (w6.heap.size + 1) ?c6 ?_)
                          try case c1 => (intro j u hu; rw [Addr.add_mid, cell_of_row _ _ _ _ _ _ (heap_alloc_new _ _)]; simpa using hu)
                          try case c2 => (first | rfl | (intro u hu; simp at hu; subst hu; rfl))
                          try case c0 => omega
                          try case c3 => (unfold maxLen; omega)
                          try case c4 => omega
                          try case c5 => (first | omega | (simp; omega))
                          try case c6 => simp
                          intro ga capa w7 hown7 hgrow7 hlie7 _
                          have hr7 := HQ6.out.1.left (x := x2) (o := .cells #[.int .i32 x2] 21) rfl hown7 hgrow7 hlie7
                          have hb7 : Below W0.heap.size W0 w7 := (HQ6.out.2.alloc hsz6 _).grown hgrow7 (by simp; omega) (fun k' hk' => (HQ6.out.1.1.lt k' hk').1)
                          have c2'' : w7.cell? ⟨g5, o5 + d, none⟩ = some (.int .i32 y2) := by
                            have h := HX.out.2.2.2.2.1
                            exact (hb7.cell (p := ⟨g5, o5 + d, none⟩) (World.block_lt_of_cell? _ _ h)).trans h
                          have HQ7 := Lib.hid (And.intro hr7 hb7)
                          clear hown7 hgrow7 hlie7 hr7 hb7 c1' c2'
                          have hsz7 : W0.heap.size ≤ w7.heap.size := HQ7.out.2.size
                          go_wp2_with fail
                          refine (class_calls _ p tabD _ (HR.out.2.2.2.1.below HQ7.out.2 (Nat.le_refl _))).mono ?_
                          rintro e w8 ⟨rfl, m8, hw8⟩
                          rw [← HF.out.1, ← HX.out.2.2.2.1]
                          have HQ8 : Hid (Rows2 w8 W0.heap.size (.slice (some ⟨ga, 0, none⟩) ((filK f kk L k d).length + 1) capa) u10 (filK f kk L k d ++ [x2]) (filK f kk M k d) ∧ Below W0.heap.size W0 w8) := Lib.hid (by rw [hw8]; exact ⟨HQ7.out.1.drewN _, below_drewN HQ7.out.2⟩)
                          have c3' : w8.cell? ⟨g5, o5 + d, none⟩ = some (.int .i32 y2) := by rw [hw8]; exact c2''
                          have hsz8 : W0.heap.size ≤ w8.heap.size := HQ8.out.2.size
                          clear hw8 c2''
                          have HQ9 := HQ8
                          clear c3'
                          go_wp2
                          go_roundw
                          case rel =>
                            refine ⟨d + 1, by omega, by omega, by go_num, Lib.hid ?_⟩
                            rw [HX.out.2.2.2.2.2.1, HX.out.2.2.2.2.2.2]
                            exact HQ9.out
                          case measure => simp [intOf]; omega
                      · by_cases hqy : fy2 = kk
                        · skip
                          rw [if_neg hqx] at hs1
                          rw [if_pos hqy] at hs2
                          have hbx : (fx2 == (kk : Int)) = false := by simpa using hqx
                          have hby : (fy2 == (kk : Int)) = true := by simpa using hqy
                          have HX := Lib.hid (And.intro hx2 (And.intro hy2 (And.intro hfx2 (And.intro hfy2 (And.intro hc2 (And.intro hs1 hs2))))))
                          clear hx2 hy2 hfx2 hfy2 hc1 hc2 hs1 hs2 hqx hqy
                          go_wp2_with fail
                          refine (class_calls _ p tabD _ (HR.out.2.2.2.1.below HQ.out.2 (Nat.le_refl _))).mono ?_
                          rintro e w6 ⟨rfl, m6, hw6⟩
                          rw [← HF.out.1, ← HX.out.2.2.1]
                          have HQ6 : Hid (Rows2 w6 W0.heap.size u9 u10 (filK f kk L k d) (filK f kk M k d) ∧ Below W0.heap.size W0 w6) := Lib.hid (by rw [hw6]; exact ⟨HQ.out.1.drewN _, below_drewN HQ.out.2⟩)
                          have c1' : w6.cell? ⟨g4, o4 + d, none⟩ = some (.int .i32 x2) := by rw [hw6]; exact c1
                          have c2' : w6.cell? ⟨g5, o5 + d, none⟩ = some (.int .i32 y2) := by rw [hw6]; exact c2
                          have hsz6 : W0.heap.size ≤ w6.heap.size := HQ6.out.2.size
                          clear hw6 c1 c2
                          obtain ⟨w7, hw7⟩ : ∃ w7, w7 = w6 := ⟨_, rfl⟩
                          rw [← hw7] at HQ6 c1' c2' hsz6 ⊢
                          have HQ7 := HQ6
                          clear hw7
                          have hsz7 : W0.heap.size ≤ w7.heap.size := HQ7.out.2.size
                          go_wp2_with fail
                          refine (class_calls _ p tabD _ (HR.out.2.2.2.1.below HQ7.out.2 (Nat.le_refl _))).mono ?_
                          rintro e w8 ⟨rfl, m8, hw8⟩
                          rw [← HF.out.1, ← HX.out.2.2.2.1]
                          have HQ8 : Hid (Rows2 w8 W0.heap.size u9 u10 (filK f kk L k d) (filK f kk M k d) ∧ Below W0.heap.size W0 w8) := Lib.hid (by rw [hw8]; exact ⟨HQ7.out.1.drewN _, below_drewN HQ7.out.2⟩)
                          have c3' : w8.cell? ⟨g5, o5 + d, none⟩ = some (.int .i32 y2) := by rw [hw8]; exact c2'
                          have hsz8 : W0.heap.size ≤ w8.heap.size := HQ8.out.2.size
                          clear hw8 c1' c2'
                          go_wp2_with (at_builtin; refine wpList_append_lies _ rfl _ _ 25 rfl W0.heap.size 21 ie (.int .i32 0) 1 4 Tryd.underlying25 hie hze i1 i2 rfl (by decide) _ _ _ rfl (HQ8.out.1.2.1.alloc _) ⟨w8.heap.size, 0, none⟩ 1 1 [.int .i32 y2] rfl rfl ?c1 ?c2 ?c0 ?c3 ?c4 ?c5 (w8.heap.size + 1) ?c6 ?_)
                          try case c1 => (intro j u hu; rw [Addr.add_mid, cell_of_row _ _ _ _ _ _ (heap_alloc_new _ _)]; simpa using hu)
                          try case c2 => (first | rfl | (intro u hu; simp at hu; subst hu; rfl))
                          try case c0 => omega
                          try case c3 => (unfold maxLen; omega)
                          try case c4 => omega
                          try case c5 => (first | omega | (simp; omega))
                          try case c6 => simp
                          intro gb capb w9 hown9 hgrow9 hlie9 _
                          have hr9 := (HQ8.out.1.symm.left (x := y2) (o := .cells #[.int .i32 y2] 21) rfl hown9 hgrow9 hlie9).symm
                          have hb9 : Below W0.heap.size W0 w9 := (HQ8.out.2.alloc hsz8 _).grown hgrow9 (by simp; omega) (fun k' hk' => (HQ8.out.1.2.1.lt k' hk').1)
                          have HQ9 := Lib.hid (And.intro hr9 hb9)
                          clear hown9 hgrow9 hlie9 hr9 hb9 c3'
                          go_wp2
                          go_roundw
                          case rel =>
                            refine ⟨d + 1, by omega, by omega, by go_num, Lib.hid ?_⟩
                            rw [HX.out.2.2.2.2.2.1, HX.out.2.2.2.2.2.2]
                            exact HQ9.out
                          case measure => simp [intOf]; omega
                        · skip
                          rw [if_neg hqx] at hs1
                          rw [if_neg hqy] at hs2
                          have hbx : (fx2 == (kk : Int)) = false := by simpa using hqx
                          have hby : (fy2 == (kk : Int)) = false := by simpa using hqy
                          have HX := Lib.hid (And.intro hx2 (And.intro hy2 (And.intro hfx2 (And.intro hfy2 (And.intro hc2 (And.intro hs1 hs2))))))
                          clear hx2 hy2 hfx2 hfy2 hc1 hc2 hs1 hs2 hqx hqy
                          go_wp2_with fail
                          refine (class_calls _ p tabD _ (HR.out.2.2.2.1.below HQ.out.2 (Nat.le_refl _))).mono ?_
                          rintro e w6 ⟨rfl, m6, hw6⟩
                          rw [← HF.out.1, ← HX.out.2.2.1]
                          have HQ6 : Hid (Rows2 w6 W0.heap.size u9 u10 (filK f kk L k d) (filK f kk M k d) ∧ Below W0.heap.size W0 w6) := Lib.hid (by rw [hw6]; exact ⟨HQ.out.1.drewN _, below_drewN HQ.out.2⟩)
                          have c1' : w6.cell? ⟨g4, o4 + d, none⟩ = some (.int .i32 x2) := by rw [hw6]; exact c1
                          have c2' : w6.cell? ⟨g5, o5 + d, none⟩ = some (.int .i32 y2) := by rw [hw6]; exact c2
                          have hsz6 : W0.heap.size ≤ w6.heap.size := HQ6.out.2.size
                          clear hw6 c1 c2
                          obtain ⟨w7, hw7⟩ : ∃ w7, w7 = w6 := ⟨_, rfl⟩
                          rw [← hw7] at HQ6 c1' c2' hsz6 ⊢
                          have HQ7 := HQ6
                          clear hw7
                          have hsz7 : W0.heap.size ≤ w7.heap.size := HQ7.out.2.size
                          go_wp2_with fail
                          refine (class_calls _ p tabD _ (HR.out.2.2.2.1.below HQ7.out.2 (Nat.le_refl _))).mono ?_
                          rintro e w8 ⟨rfl, m8, hw8⟩
                          rw [← HF.out.1, ← HX.out.2.2.2.1]
                          have HQ8 : Hid (Rows2 w8 W0.heap.size u9 u10 (filK f kk L k d) (filK f kk M k d) ∧ Below W0.heap.size W0 w8) := Lib.hid (by rw [hw8]; exact ⟨HQ7.out.1.drewN _, below_drewN HQ7.out.2⟩)
                          have c3' : w8.cell? ⟨g5, o5 + d, none⟩ = some (.int .i32 y2) := by rw [hw8]; exact c2'
                          have hsz8 : W0.heap.size ≤ w8.heap.size := HQ8.out.2.size
                          clear hw8 c1' c2'
                          have HQ9 := HQ8
                          clear c3'
                          go_wp2
                          go_roundw
                          case rel =>
                            refine ⟨d + 1, by omega, by omega, by go_num, Lib.hid ?_⟩
                            rw [HX.out.2.2.2.2.2.1, HX.out.2.2.2.2.2.2]
                            exact HQ9.out
                          case measure => simp [intOf]; omega
                    · have hdk : d = t := by omega
                      have hrun := filK_run (q := kk) Hst.out.1
                      have hra := RdR.of_owns HQ.out.1.1 (by have := filK_len f kk L k d; omega)
                      have hrb := RdR.of_owns HQ.out.1.2.1 (by have := filK_len f kk M k d; omega)
                      rw [← hdk] at hrun
                      rw [hrun] at hrb
                      have hnl : decide (d < t) = false := by simpa using hdl
                      have HRB := Lib.hid (And.intro hra (And.intro hrb HQ.out.2))
                      clear hra hrb hrun hdk
                      go_wp2_with fail
                      refine (same_calls _ _ _ _ _ HRB.out.1 HRB.out.2.1).mono ?_
                      rintro e w7 ⟨rfl, m7, hw7⟩
                      rw [show decide (filK f kk L k d = filK f kk L k d) = true by simp]
                      have HB7 : Hid (Below W0.heap.size W0 w7) := Lib.hid (by rw [hw7]; exact below_drewN HRB.out.2.2)
                      clear hw7
                      go_wp2
                      go_roundw
                      case rel => exact ⟨kk + 1, by omega, by omega, by go_num, HB7⟩
                      case measure => simp [intOf]; omega
                · have hd : decide (kk < 256) = false := by simpa using hkl
                  have hge : 256 ≤ kk := by omega
                  go_wp2
                  go_roundw
                  case rel => exact ⟨t, htL, rfl, Lib.hid ⟨hK.out, Hst.out.2⟩⟩
                  case measure => simp [intOf]; omega
          · have htd : decide (t < L.length) = false := by simpa using htl
            have Hex := Lib.hid (show (h : t < L.length) → f L[t] = 0 from fun h => absurd h htl)
            have hktl : k < t := by omega
            -- loops over the classes
            have Hst := Lib.hid (stab_run hkt htL HB5.out.2 Hex.out)
            go_wp2
            obtain ⟨we, hwe⟩ : ∃ we : World, we = wr := ⟨_, rfl⟩
            rw [← hwe] at hH ⊢
            clear hwe
            go_loopw [8] (fun q wr => ∃ kk : Nat, 1 ≤ kk ∧ kk ≤ 256 ∧ q = .int .i64 kk ∧ Hid (Below W0.heap.size W0 wr)) (fun q _ => 256 - (intOf q).toNat)
            case atStart => exact ⟨1, by omega, by omega, rfl, Lib.hid hH.out⟩
            case round =>
              obtain ⟨kk, h1k, hk256, rfl, hK⟩ := hrel
              by_cases hkl : kk < 256
              · have hkb : decide ((kk : Int) < 256) = true := by simp; omega
                go_wp2
                obtain ⟨wf, hwf⟩ : ∃ wf : World, wf = wr := ⟨_, rfl⟩
                rw [← hwf] at hK ⊢
                clear hwf
                go_loopw [9, 10, 11] (fun a b i wr => ∃ d : Nat, k ≤ d ∧ d ≤ t ∧ i = .int .i64 d ∧ Hid (Rows2 wr W0.heap.size a b (filK f kk L k d) (filK f kk M k d) ∧ Below W0.heap.size W0 wr)) (fun _ _ i _ => t - (intOf i).toNat)
                case atStart => exact ⟨k, Nat.le_refl _, hkt, rfl, Lib.hid ⟨by rw [filK_zero, filK_zero]; exact Rows2.nil _ _, hK.out⟩⟩
                case round =>
                  obtain ⟨d, hkd, hd, rfl, HQ⟩ := hrel
                  by_cases hdl : d < t
                  · have hL : d < L.length := by omega
                    have hM : d < M.length := by have := HR.out.1; omega
                    have hc1 := HR.out.2.1 d hL
                    have hc2 := HR.out.2.2.1 d hM
                    have hs1 := filK_succ f kk L k d hkd hL
                    have hs2 := filK_succ f kk M k d hkd hM
                    obtain ⟨x2, hx2⟩ : ∃ x2, x2 = L[d] := ⟨_, rfl⟩
                    obtain ⟨y2, hy2⟩ : ∃ y2, y2 = M[d] := ⟨_, rfl⟩
                    rw [← hx2] at hc1 hs1
                    rw [← hy2] at hc2 hs2
                    obtain ⟨fx2, hfx2⟩ : ∃ z, z = f x2 := ⟨_, rfl⟩
                    obtain ⟨fy2, hfy2⟩ : ∃ z, z = f y2 := ⟨_, rfl⟩
                    rw [← hfx2] at hs1
                    rw [← hfy2] at hs2
                    have c1 : wr.cell? ⟨g4, o4 + d, none⟩ = some (.int .i32 x2) := (HQ.out.2.cell (p := ⟨g4, o4 + d, none⟩) (World.block_lt_of_cell? _ _ hc1)).trans hc1
                    have c2 : wr.cell? ⟨g5, o5 + d, none⟩ = some (.int .i32 y2) := (HQ.out.2.cell (p := ⟨g5, o5 + d, none⟩) (World.block_lt_of_cell? _ _ hc2)).trans hc2
                    have hla := filK_len f kk L k d
                    have hlb := filK_len f kk M k d
                    have hlt2 : d < t := by omega
                    by_cases hqx : fx2 = kk
                    · by_cases hqy : fy2 = kk
                      · skip
                        rw [if_pos hqx] at hs1
                        rw [if_pos hqy] at hs2
                        have hbx : (fx2 == (kk : Int)) = true := by simpa using hqx
                        have hby : (fy2 == (kk : Int)) = true := by simpa using hqy
                        have HX := Lib.hid (And.intro hx2 (And.intro hy2 (And.intro hfx2 (And.intro hfy2 (And.intro hc2 (And.intro hs1 hs2))))))
                        clear hx2 hy2 hfx2 hfy2 hc1 hc2 hs1 hs2 hqx hqy
                        go_wp2_with fail
                        refine (class_calls _ p tabD _ (HR.out.2.2.2.1.below HQ.out.2 (Nat.le_refl _))).mono ?_
                        rintro e w6 ⟨rfl, m6, hw6⟩
                        rw [← HF.out.1, ← HX.out.2.2.1]
                        have HQ6 : Hid (Rows2 w6 W0.heap.size u9 u10 (filK f kk L k d) (filK f kk M k d) ∧ Below W0.heap.size W0 w6) := Lib.hid (by rw [hw6]; exact ⟨HQ.out.1.drewN _, below_drewN HQ.out.2⟩)
                        have c1' : w6.cell? ⟨g4, o4 + d, none⟩ = some (.int .i32 x2) := by rw [hw6]; exact c1
                        have c2' : w6.cell? ⟨g5, o5 + d, none⟩ = some (.int .i32 y2) := by rw [hw6]; exact c2
                        have hsz6 : W0.heap.size ≤ w6.heap.size := HQ6.out.2.size
                        clear hw6 c1 c2
                        go_wp2_with (at_builtin; refine wpList_append_lies _ rfl _ _ 25 rfl W0.heap.size 21 ie (.int .i32 0) 1 4 Tryd.underlying25 hie hze i1 i2 rfl (by decide) _ _ _ rfl (HQ6.out.1.1.alloc _) ⟨w6.heap.size, 0, none⟩ 1 1 [.int .i32 x2] rfl rfl ?c1 ?c2 ?c0 ?c3 ?c4 ?c5 (w6.heap.size + 1) ?c6 ?_)
                        try case c1 => (intro j u hu; rw [Addr.add_mid, cell_of_row _ _ _ _ _ _ (heap_alloc_new _ _)]; simpa using hu)
                        try case c2 => (first | rfl | (intro u hu; simp at hu; subst hu; rfl))
                        try case c0 => omega
                        try case c3 => (unfold maxLen; omega)
                        try case c4 => omega
                        try case c5 => (first | omega | (simp; omega))
                        try case c6 => simp
                        intro ga capa w7 hown7 hgrow7 hlie7 _
                        have hr7 := HQ6.out.1.left (x := x2) (o := .cells #[.int .i32 x2] 21) rfl hown7 hgrow7 hlie7
                        have hb7 : Below W0.heap.size W0 w7 := (HQ6.out.2.alloc hsz6 _).grown hgrow7 (by simp; omega) (fun k' hk' => (HQ6.out.1.1.lt k' hk').1)
                        have c2'' : w7.cell? ⟨g5, o5 + d, none⟩ = some (.int .i32 y2) := by
                          have h := HX.out.2.2.2.2.1
                          exact (hb7.cell (p := ⟨g5, o5 + d, none⟩) (World.block_lt_of_cell? _ _ h)).trans h
                        have HQ7 := Lib.hid (And.intro hr7 hb7)
                        clear hown7 hgrow7 hlie7 hr7 hb7 c1' c2'
                        have hsz7 : W0.heap.size ≤ w7.heap.size := HQ7.out.2.size
                        go_wp2_with fail
                        refine (class_calls _ p tabD _ (HR.out.2.2.2.1.below HQ7.out.2 (Nat.le_refl _))).mono ?_
                        rintro e w8 ⟨rfl, m8, hw8⟩
                        rw [← HF.out.1, ← HX.out.2.2.2.1]
                        have HQ8 : Hid (Rows2 w8 W0.heap.size (.slice (some ⟨ga, 0, none⟩) ((filK f kk L k d).length + 1) capa) u10 (filK f kk L k d ++ [x2]) (filK f kk M k d) ∧ Below W0.heap.size W0 w8) := Lib.hid (by rw [hw8]; exact ⟨HQ7.out.1.drewN _, below_drewN HQ7.out.2⟩)
                        have c3' : w8.cell? ⟨g5, o5 + d, none⟩ = some (.int .i32 y2) := by rw [hw8]; exact c2''
                        have hsz8 : W0.heap.size ≤ w8.heap.size := HQ8.out.2.size
                        clear hw8 c2''
                        go_wp2_with (at_builtin; refine wpList_append_lies _ rfl _ _ 25 rfl W0.heap.size 21 ie (.int .i32 0) 1 4 Tryd.underlying25 hie hze i1 i2 rfl (by decide) _ _ _ rfl (HQ8.out.1.2.1.alloc _) ⟨w8.heap.size, 0, none⟩ 1 1 [.int .i32 y2] rfl rfl ?c1 ?c2 ?c0 ?c3 ?c4 ?c5 (w8.heap.size + 1) ?c6 ?_)
                        try case c1 => (intro j u hu; rw [Addr.add_mid, cell_of_row _ _ _ _ _ _ (heap_alloc_new _ _)]; simpa using hu)
                        try case c2 => (first | rfl | (intro u hu; simp at hu; subst hu; rfl))
                        try case c0 => omega
                        try case c3 => (unfold maxLen; omega)
                        try case c4 => omega
                        try case c5 => (first | omega | (simp; omega))
                        try case c6 => simp
                        intro gb capb w9 hown9 hgrow9 hlie9 _
                        have hr9 := (HQ8.out.1.symm.left (x := y2) (o := .cells #[.int .i32 y2] 21) rfl hown9 hgrow9 hlie9).symm
                        have hb9 : Below W0.heap.size W0 w9 := (HQ8.out.2.alloc hsz8 _).grown hgrow9 (by simp; omega) (fun k' hk' => (HQ8.out.1.2.1.lt k' hk').1)
                        have HQ9 := Lib.hid (And.intro hr9 hb9)
                        clear hown9 hgrow9 hlie9 hr9 hb9 c3'
                        go_wp2
                        go_roundw
                        case rel =>
                          refine ⟨d + 1, by omega, by omega, by go_num, Lib.hid ?_⟩
                          rw [HX.out.2.2.2.2.2.1, HX.out.2.2.2.2.2.2]
                          exact HQ9.out
                        case measure => simp [intOf]; omega
                      · skip
                        rw [if_pos hqx] at hs1
                        rw [if_neg hqy] at hs2
                        have hbx : (fx2 == (kk : Int)) = true := by simpa using hqx
                        have hby : (fy2 == (kk : Int)) = false := by simpa using hqy
                        have HX := Lib.hid (And.intro hx2 (And.intro hy2 (And.intro hfx2 (And.intro hfy2 (And.intro hc2 (And.intro hs1 hs2))))))
                        clear hx2 hy2 hfx2 hfy2 hc1 hc2 hs1 hs2 hqx hqy
                        go_wp2_with fail
                        refine (class_calls _ p tabD _ (HR.out.2.2.2.1.below HQ.out.2 (Nat.le_refl _))).mono ?_
                        rintro e w6 ⟨rfl, m6, hw6⟩
                        rw [← HF.out.1, ← HX.out.2.2.1]
                        have HQ6 : Hid (Rows2 w6 W0.heap.size u9 u10 (filK f kk L k d) (filK f kk M k d) ∧ Below W0.heap.size W0 w6) := Lib.hid (by rw [hw6]; exact ⟨HQ.out.1.drewN _, below_drewN HQ.out.2⟩)
                        have c1' : w6.cell? ⟨g4, o4 + d, none⟩ = some (.int .i32 x2) := by rw [hw6]; exact c1
                        have c2' : w6.cell? ⟨g5, o5 + d, none⟩ = some (.int .i32 y2) := by rw [hw6]; exact c2
                        have hsz6 : W0.heap.size ≤ w6.heap.size := HQ6.out.2.size
                        clear hw6 c1 c2
                        go_wp2_with (at_builtin; refine wpList_append_lies _ rfl _ _ 25 rfl W0.heap.size 21 ie (.int .i32 0) 1 4 Tryd.underlying25 hie hze i1 i2 rfl (by decide) _ _ _ rfl (HQ6.out.1.1.alloc _) ⟨w6.heap.size, 0, none⟩ 1 1 [.int .i32 x2] rfl rfl ?c1 ?c2 ?c0 ?c3 ?c4 ?c5 (w6.heap.size + 1) ?c6 ?_)
                        try case c1 => (intro j u hu; rw [Addr.add_mid, cell_of_row _ _ _ _ _ _ (heap_alloc_new _ _)]; simpa using hu)
                        try case c2 => (first | rfl | (intro u hu; simp at hu; subst hu; rfl))
                        try case c0 => omega
                        try case c3 => (unfold maxLen; omega)
                        try case c4 => omega
                        try case c5 => (first | omega | (simp; omega))
                        try case c6 => simp
                        intro ga capa w7 hown7 hgrow7 hlie7 _
                        have hr7 := HQ6.out.1.left (x := x2) (o := .cells #[.int .i32 x2] 21) rfl hown7 hgrow7 hlie7
                        have hb7 : Below W0.heap.size W0 w7 := (HQ6.out.2.alloc hsz6 _).grown hgrow7 (by simp; omega) (fun k' hk' => (HQ6.out.1.1.lt k' hk').1)
                        have c2'' : w7.cell? ⟨g5, o5 + d, none⟩ = some (.int .i32 y2) := by
                          have h := HX.out.2.2.2.2.1
                          exact (hb7.cell (p := ⟨g5, o5 + d, none⟩) (World.block_lt_of_cell? _ _ h)).trans h
                        have HQ7 := Lib.hid (And.intro hr7 hb7)
                        clear hown7 hgrow7 hlie7 hr7 hb7 c1' c2'
                        have hsz7 : W0.heap.size ≤ w7.heap.size := HQ7.out.2.size
                        go_wp2_with fail
                        refine (class_calls _ p tabD _ (HR.out.2.2.2.1.below HQ7.out.2 (Nat.le_refl _))).mono ?_
                        rintro e w8 ⟨rfl, m8, hw8⟩
                        rw [← HF.out.1, ← HX.out.2.2.2.1]
                        have HQ8 : Hid (Rows2 w8 W0.heap.size (.slice (some ⟨ga, 0, none⟩) ((filK f kk L k d).length + 1) capa) u10 (filK f kk L k d ++ [x2]) (filK f kk M k d) ∧ Below W0.heap.size W0 w8) := Lib.hid (by rw [hw8]; exact ⟨HQ7.out.1.drewN _, below_drewN HQ7.out.2⟩)
                        have c3' : w8.cell? ⟨g5, o5 + d, none⟩ = some (.int .i32 y2) := by rw [hw8]; exact c2''
                        have hsz8 : W0.heap.size ≤ w8.heap.size := HQ8.out.2.size
                        clear hw8 c2''
                        have HQ9 := HQ8
                        clear c3'
                        go_wp2
                        go_roundw
                        case rel =>
                          refine ⟨d + 1, by omega, by omega, by go_num, Lib.hid ?_⟩
                          rw [HX.out.2.2.2.2.2.1, HX.out.2.2.2.2.2.2]
                          exact HQ9.out
                        case measure => simp [intOf]; omega
                    · by_cases hqy : fy2 = kk
                      · skip
                        rw [if_neg hqx] at hs1
                        rw [if_pos hqy] at hs2
                        have hbx : (fx2 == (kk : Int)) = false := by simpa using hqx
                        have hby : (fy2 == (kk : Int)) = true := by simpa using hqy
                        have HX := Lib.hid (And.intro hx2 (And.intro hy2 (And.intro hfx2 (And.intro hfy2 (And.intro hc2 (And.intro hs1 hs2))))))
                        clear hx2 hy2 hfx2 hfy2 hc1 hc2 hs1 hs2 hqx hqy
                        go_wp2_with fail
                        refine (class_calls _ p tabD _ (HR.out.2.2.2.1.below HQ.out.2 (Nat.le_refl _))).mono ?_
                        rintro e w6 ⟨rfl, m6, hw6⟩
                        rw [← HF.out.1, ← HX.out.2.2.1]
                        have HQ6 : Hid (Rows2 w6 W0.heap.size u9 u10 (filK f kk L k d) (filK f kk M k d) ∧ Below W0.heap.size W0 w6) := Lib.hid (by rw [hw6]; exact ⟨HQ.out.1.drewN _, below_drewN HQ.out.2⟩)
                        have c1' : w6.cell? ⟨g4, o4 + d, none⟩ = some (.int .i32 x2) := by rw [hw6]; exact c1
                        have c2' : w6.cell? ⟨g5, o5 + d, none⟩ = some (.int .i32 y2) := by rw [hw6]; exact c2
                        have hsz6 : W0.heap.size ≤ w6.heap.size := HQ6.out.2.size
                        clear hw6 c1 c2
                        obtain ⟨w7, hw7⟩ : ∃ w7, w7 = w6 := ⟨_, rfl⟩
                        rw [← hw7] at HQ6 c1' c2' hsz6 ⊢
                        have HQ7 := HQ6
                        clear hw7
                        have hsz7 : W0.heap.size ≤ w7.heap.size := HQ7.out.2.size
                        go_wp2_with fail
                        refine (class_calls _ p tabD _ (HR.out.2.2.2.1.below HQ7.out.2 (Nat.le_refl _))).mono ?_
                        rintro e w8 ⟨rfl, m8, hw8⟩
                        rw [← HF.out.1, ← HX.out.2.2.2.1]
                        have HQ8 : Hid (Rows2 w8 W0.heap.size u9 u10 (filK f kk L k d) (filK f kk M k d) ∧ Below W0.heap.size W0 w8) := Lib.hid (by rw [hw8]; exact ⟨HQ7.out.1.drewN _, below_drewN HQ7.out.2⟩)
                        have c3' : w8.cell? ⟨g5, o5 + d, none⟩ = some (.int .i32 y2) := by rw [hw8]; exact c2'
                        have hsz8 : W0.heap.size ≤ w8.heap.size := HQ8.out.2.size
                        clear hw8 c1' c2'
                        go_wp2_with (at_builtin; refine wpList_append_lies _ rfl _ _ 25 rfl W0.heap.size 21 ie (.int .i32 0) 1 4 Tryd.underlying25 hie hze i1 i2 rfl (by decide) _ _ _ rfl (HQ8.out.1.2.1.alloc _) ⟨w8.heap.size, 0, none⟩ 1 1 [.int .i32 y2] rfl rfl ?c1 ?c2 ?c0 ?c3 ?c4 ?c5 (w8.heap.size + 1) ?c6 ?_)
                        try case c1 => (intro j u hu; rw [Addr.add_mid, cell_of_row _ _ _ _ _ _ (heap_alloc_new _ _)]; simpa using hu)
                        try case c2 => (first | rfl | (intro u hu; simp at hu; subst hu; rfl))
                        try case c0 => omega
                        try case c3 => (unfold maxLen; omega)
                        try case c4 => omega
                        try case c5 => (first | omega | (simp; omega))
                        try case c6 => simp
                        intro gb capb w9 hown9 hgrow9 hlie9 _
                        have hr9 := (HQ8.out.1.symm.left (x := y2) (o := .cells #[.int .i32 y2] 21) rfl hown9 hgrow9 hlie9).symm
                        have hb9 : Below W0.heap.size W0 w9 := (HQ8.out.2.alloc hsz8 _).grown hgrow9 (by simp; omega) (fun k' hk' => (HQ8.out.1.2.1.lt k' hk').1)
                        have HQ9 := Lib.hid (And.intro hr9 hb9)
                        clear hown9 hgrow9 hlie9 hr9 hb9 c3'
                        go_wp2
                        go_roundw
                        case rel =>
                          refine ⟨d + 1, by omega, by omega, by go_num, Lib.hid ?_⟩
                          rw [HX.out.2.2.2.2.2.1, HX.out.2.2.2.2.2.2]
                          exact HQ9.out
                        case measure => simp [intOf]; omega
                      · skip
                        rw [if_neg hqx] at hs1
                        rw [if_neg hqy] at hs2
                        have hbx : (fx2 == (kk : Int)) = false := by simpa using hqx
                        have hby : (fy2 == (kk : Int)) = false := by simpa using hqy
                        have HX := Lib.hid (And.intro hx2 (And.intro hy2 (And.intro hfx2 (And.intro hfy2 (And.intro hc2 (And.intro hs1 hs2))))))
                        clear hx2 hy2 hfx2 hfy2 hc1 hc2 hs1 hs2 hqx hqy
                        go_wp2_with fail
                        refine (class_calls _ p tabD _ (HR.out.2.2.2.1.below HQ.out.2 (Nat.le_refl _))).mono ?_
                        rintro e w6 ⟨rfl, m6, hw6⟩
                        rw [← HF.out.1, ← HX.out.2.2.1]
                        have HQ6 : Hid (Rows2 w6 W0.heap.size u9 u10 (filK f kk L k d) (filK f kk M k d) ∧ Below W0.heap.size W0 w6) := Lib.hid (by rw [hw6]; exact ⟨HQ.out.1.drewN _, below_drewN HQ.out.2⟩)
                        have c1' : w6.cell? ⟨g4, o4 + d, none⟩ = some (.int .i32 x2) := by rw [hw6]; exact c1
                        have c2' : w6.cell? ⟨g5, o5 + d, none⟩ = some (.int .i32 y2) := by rw [hw6]; exact c2
                        have hsz6 : W0.heap.size ≤ w6.heap.size := HQ6.out.2.size
                        clear hw6 c1 c2
                        obtain ⟨w7, hw7⟩ : ∃ w7, w7 = w6 := ⟨_, rfl⟩
                        rw [← hw7] at HQ6 c1' c2' hsz6 ⊢
                        have HQ7 := HQ6
                        clear hw7
                        have hsz7 : W0.heap.size ≤ w7.heap.size := HQ7.out.2.size
                        go_wp2_with fail
                        refine (class_calls _ p tabD _ (HR.out.2.2.2.1.below HQ7.out.2 (Nat.le_refl _))).mono ?_
                        rintro e w8 ⟨rfl, m8, hw8⟩
                        rw [← HF.out.1, ← HX.out.2.2.2.1]
                        have HQ8 : Hid (Rows2 w8 W0.heap.size u9 u10 (filK f kk L k d) (filK f kk M k d) ∧ Below W0.heap.size W0 w8) := Lib.hid (by rw [hw8]; exact ⟨HQ7.out.1.drewN _, below_drewN HQ7.out.2⟩)
                        have c3' : w8.cell? ⟨g5, o5 + d, none⟩ = some (.int .i32 y2) := by rw [hw8]; exact c2'
                        have hsz8 : W0.heap.size ≤ w8.heap.size := HQ8.out.2.size
                        clear hw8 c1' c2'
                        have HQ9 := HQ8
                        clear c3'
                        go_wp2
                        go_roundw
                        case rel =>
                          refine ⟨d + 1, by omega, by omega, by go_num, Lib.hid ?_⟩
                          rw [HX.out.2.2.2.2.2.1, HX.out.2.2.2.2.2.2]
                          exact HQ9.out
                        case measure => simp [intOf]; omega
                  · have hdk : d = t := by omega
                    have hrun := filK_run (q := kk) Hst.out.1
                    have hra := RdR.of_owns HQ.out.1.1 (by have := filK_len f kk L k d; omega)
                    have hrb := RdR.of_owns HQ.out.1.2.1 (by have := filK_len f kk M k d; omega)
                    rw [← hdk] at hrun
                    rw [hrun] at hrb
                    have hnl : decide (d < t) = false := by simpa using hdl
                    have HRB := Lib.hid (And.intro hra (And.intro hrb HQ.out.2))
                    clear hra hrb hrun hdk
                    go_wp2_with fail
                    refine (same_calls _ _ _ _ _ HRB.out.1 HRB.out.2.1).mono ?_
                    rintro e w7 ⟨rfl, m7, hw7⟩
                    rw [show decide (filK f kk L k d = filK f kk L k d) = true by simp]
                    have HB7 : Hid (Below W0.heap.size W0 w7) := Lib.hid (by rw [hw7]; exact below_drewN HRB.out.2.2)
                    clear hw7
                    go_wp2
                    go_roundw
                    case rel => exact ⟨kk + 1, by omega, by omega, by go_num, HB7⟩
                    case measure => simp [intOf]; omega
              · have hd : decide (kk < 256) = false := by simpa using hkl
                have hge : 256 ≤ kk := by omega
                go_wp2
                go_roundw
                case rel => exact ⟨t, htL, rfl, Lib.hid ⟨hK.out, Hst.out.2⟩⟩
                case measure => simp [intOf]; omega
    · have hd : decide (k < L.length) = false := by simpa using hlt
      go_wp2_with fail
      refine (awake7_calls _ p (HR.out.2.2.2.1.below hH.out.1 (Nat.le_refl _))).mono ?_
      rintro e w9 ⟨rfl, b9⟩
      have H9 := Lib.hid ((HR.out.2.2.2.2.trans (hH.out.1.mono HR.out.2.2.2.2.size)).trans (b9.mono (Nat.le_trans HR.out.2.2.2.2.size hH.out.1.size)))
      clear b9
      go_wp2
      go_ret
      exact ⟨rfl, H9.out⟩
end Go.Proofs.YtejikiebhjiocaaDoor
