/- Rows of runes: how they read; the law's own helpers over them. -/
import Derived.Test.YtejikiebhjiocaaDoorBd
import Derived.BigQuiet
set_option linter.unusedVariables false
set_option linter.unusedSimpArgs false
namespace Go.Proofs.YtejikiebhjiocaaDoor
open Go.RowKit

/-- A slice that reads as a row of runes. -/
def RdR (W : World) (v : Value) (xs : List Int) : Prop :=
  ∃ A c, v = .slice A xs.length c ∧ xs.length ≤ 1000000 ∧ ∀ j, (h : j < xs.length) → ∃ g o, A = some ⟨g, o, none⟩ ∧ W.cell? ⟨g, o + j, none⟩ = some (.int .i32 xs[j])
theorem RdR.of_heap {W W' : World} {v : Value} {xs : List Int} (h : RdR W v xs) (hk : ∀ k, k < W.heap.size → W'.heap[k]? = W.heap[k]?) : RdR W' v xs := by
  obtain ⟨A, c, e, hl, hx⟩ := h
  refine ⟨A, c, e, hl, fun j hj => ?_⟩
  obtain ⟨g, o, e2, hc⟩ := hx j hj
  exact ⟨g, o, e2, (World.cell?_of_block (w := W) (a := ⟨g, o + j, none⟩) (hk g (World.block_lt_of_cell? _ _ hc))).trans hc⟩
theorem RdR.below {W W' : World} {n : Nat} {v : Value} {xs : List Int} (h : RdR W v xs) (hB : Below n W W') (hn : W.heap.size ≤ n) : RdR W' v xs := h.of_heap fun k hk => hB.block k (Nat.lt_of_lt_of_le hk hn)
theorem RdR.drewN {W : World} {v : Value} {xs : List Int} (h : RdR W v xs) (n : Nat) : RdR (W.drewN n) v xs := h.of_heap fun _ _ => rfl
/-- A base and an offset, also where nothing is read. -/
theorem RdR.open {W : World} {v : Value} {xs : List Int} (h : RdR W v xs) : ∃ A c, v = .slice A xs.length c ∧ xs.length ≤ 1000000 ∧ ∃ g o, (0 < xs.length → A = some ⟨g, o, none⟩) ∧ ∀ j, (h : j < xs.length) → W.cell? ⟨g, o + j, none⟩ = some (.int .i32 xs[j]) := by
  obtain ⟨A, c, e, hl, hx⟩ := h
  refine ⟨A, c, e, hl, ?_⟩
  by_cases h0 : 0 < xs.length
  · obtain ⟨g, o, e2, _⟩ := hx 0 h0
    refine ⟨g, o, fun _ => e2, fun j hj => ?_⟩
    obtain ⟨g', o', e3, hc⟩ := hx j hj
    rw [e2] at e3
    cases e3
    exact hc
  · exact ⟨0, 0, fun h => absurd h h0, fun j hj => absurd hj (by omega)⟩
theorem RdR.of_owns {W : World} {base : Nat} {v : Value} {xs : List Int} (h : W.ownsRow base 21 1 v xs.length (xs.map (Value.int .i32))) (hl : xs.length ≤ 1000000) : RdR W v xs := by
  rcases h.2 with ⟨k1, k2⟩ | ⟨G, cap, cur, k1, k2, k3, k4, k5, k6, k7⟩
  · exact ⟨none, 0, by rw [k1, k2], hl, fun j hj => absurd hj (by omega)⟩
  · refine ⟨_, _, k1, hl, fun j hj => ⟨G, 0, rfl, ?_⟩⟩
    rw [Nat.zero_add, cell_of_row _ _ _ _ _ _ k3]
    have : (xs.map (Value.int .i32))[j]? = some (.int .i32 xs[j]) := by simp [hj]
    rw [← k7, List.getElem?_take_of_lt (by omega)] at this
    simpa using this

theorem refIs_calls (w : World) (c : Int) : Calls Tryd.prog 28 #[.int .i32 c] w fun e w' => e = .returned (.bool (isScalar c)) ∧ w = w' := by
  by_cases h1 : 0 ≤ c
  · by_cases h3 : c < 55296
    · go_enter Tryd.func28, Tryd.ntmps28
      go_wp2
      go_ret
      simp [isScalar, h1, h3]
      omega
    · by_cases h4 : 57343 < c
      · go_enter Tryd.func28, Tryd.ntmps28
        go_wp2
        go_ret
        simp [isScalar, h1, h3, h4]
      · go_enter Tryd.func28, Tryd.ntmps28
        go_wp2
        go_ret
        simp [isScalar, h1, h3, h4]
  · have h4 : ¬ 57343 < c := by omega
    go_enter Tryd.func28, Tryd.ntmps28
    go_wp2
    go_ret
    simp only [isScalar]
    exact ⟨by congr 2; simp; omega, trivial⟩

set_option maxHeartbeats 2000000 in
theorem same_calls (w : World) (a b : Value) (xs ys : List Int) (ha : RdR w a xs) (hb : RdR w b ys) :
    Calls Tryd.prog 12 #[a, b] w fun e w' => e = .returned (.bool (decide (xs = ys))) ∧ ∃ n, w' = w.drewN n := by
  obtain ⟨A, ca, rfl, hxl, gx, ox, hA, hx⟩ := ha.open
  obtain ⟨B, cb, rfl, hyl, gy, oy, hB, hy⟩ := hb.open
  clear ha hb
  by_cases hlen : xs.length = ys.length
  · have hEnd : ∀ k, k = xs.length → xs.take k = ys.take k → decide (xs = ys) = true := fun k hk h => by
      rw [List.take_of_length_le (by omega), List.take_of_length_le (by omega)] at h
      simpa using h
    have hStep : ∀ k, (h : k < xs.length) → (h' : k < ys.length) → xs.take k = ys.take k → xs[k] = ys[k] → xs.take (k + 1) = ys.take (k + 1) := fun k h h' e1 e2 => by
      rw [List.take_succ_eq_append_getElem h, List.take_succ_eq_append_getElem h', e1, e2]
    have hNo : ∀ k, (h : k < xs.length) → (h' : k < ys.length) → xs[k] ≠ ys[k] → decide (xs = ys) = false := fun k h h' e => by
      have : xs ≠ ys := fun e' => e (by subst e'; rfl)
      simpa using this
    have Hx := Lib.hid hx
    have Hy := Lib.hid hy
    have HA := Lib.hid hA
    have HB := Lib.hid hB
    have Hl := Lib.hid hlen
    have HE := Lib.hid hEnd
    have HS := Lib.hid hStep
    have HN := Lib.hid hNo
    rw [← hlen]
    clear hx hy hA hB hlen hEnd hStep hNo hyl
    go_enter Tryd.func12, Tryd.ntmps12
    go_wp2
    go_loopw [5] (fun i wr => ∃ k : Nat, k ≤ xs.length ∧ i = .int .i64 k ∧ Hid (xs.take k = ys.take k) ∧ Hid (∃ n, wr = w.drewN n)) (fun i _ => xs.length - (intOf i).toNat)
    case atStart => exact ⟨0, Nat.zero_le _, rfl, Lib.hid rfl, Lib.hid ⟨0, rfl⟩⟩
    case round =>
      obtain ⟨k, hk, rfl, h1, h2⟩ := hrel
      by_cases hlt : k < xs.length
      · have hlt' : k < ys.length := by have := Hl.out; omega
        have eA := HA.out (by omega)
        have eB := HB.out (by omega)
        have c1 : wr.cell? ⟨gx, ox + k, none⟩ = some (.int .i32 xs[k]) := by obtain ⟨n, hn⟩ := h2.out; rw [hn]; exact Hx.out k hlt
        have c2 : wr.cell? ⟨gy, oy + k, none⟩ = some (.int .i32 ys[k]) := by obtain ⟨n, hn⟩ := h2.out; rw [hn]; exact Hy.out k hlt'
        subst eA eB
        obtain ⟨x, hxx⟩ : ∃ x, x = xs[k] := ⟨_, rfl⟩
        obtain ⟨y, hyy⟩ : ∃ y, y = ys[k] := ⟨_, rfl⟩
        rw [← hxx] at c1
        rw [← hyy] at c2
        have Hxx := Lib.hid hxx
        have Hyy := Lib.hid hyy
        clear hxx hyy
        by_cases hxy : x = y
        · subst hxy
          go_wp2
          go_quiet (fail)
          go_wp2
          go_roundw
          case rel => exact ⟨k + 1, by omega, by go_num, Lib.hid (HS.out k hlt hlt' h1.out (by rw [← Hxx.out, ← Hyy.out])), Lib.hid (by obtain ⟨n, hn⟩ := h2.out; exact ⟨n + nq, by rw [hn, World.drewN_drewN]⟩)⟩
          case measure => simp [intOf]; omega
        · have hb : (x != y) = true := by simpa using hxy
          have HN' := Lib.hid (HN.out k hlt hlt' (by rw [← Hxx.out, ← Hyy.out]; exact hxy))
          go_wp2
          go_quiet (fail)
          go_wp2
          go_ret
          exact ⟨by rw [HN'.out]; rfl, by obtain ⟨n, hn⟩ := h2.out; exact ⟨n + nq, by rw [hn, World.drewN_drewN]⟩⟩
      · have hke : k = xs.length := by omega
        have HE' := Lib.hid (HE.out k hke h1.out)
        have hlt2 : decide (k < xs.length) = false := by simpa using hlt
        clear hke
        go_wp2
        go_ret
        exact ⟨by rw [HE'.out]; rfl, h2.out⟩
  · have hne : decide (xs = ys) = false := by
      have : xs ≠ ys := fun e => hlen (by rw [e])
      simpa using this
    have HN := Lib.hid hne
    have hn : ¬ (xs.length : Int) = (ys.length : Int) := by omega
    clear hx hy hA hB hne
    go_enter Tryd.func12, Tryd.ntmps12
    go_wp2
    go_ret
    exact ⟨by rw [HN.out]; rfl, 0, rfl⟩

/-- A number of any kind as one from 0 on. -/
def placeV (v n : Int) : Int := if v.tmod n < 0 then v.tmod n + n else v.tmod n
theorem placeV_ge (v n : Int) (hn : 0 < n) : 0 ≤ placeV v n := by
  have := Int.lt_tmod_of_pos v hn
  unfold placeV; split <;> omega
theorem placeV_lt (v n : Int) (hn : 0 < n) : placeV v n < n := by
  have := Int.tmod_lt_of_pos v hn
  unfold placeV; split <;> omega
theorem place_calls (w : World) (v n : Int) (hn : 0 < n) (hn2 : n ≤ 1099511627776) :
    Calls Tryd.prog 21 #[.int .i64 v, .int .i64 n] w fun e w' => e = .returned (.int .i64 (placeV v n)) ∧ w = w' := by
  have h1 := Int.lt_tmod_of_pos v hn
  have h2 := Int.tmod_lt_of_pos v hn
  have h0 : (n == 0) = false := by simp; omega
  by_cases hneg : v.tmod n < 0
  · have HB := Lib.hid (show placeV v n = v.tmod n + n by unfold placeV; rw [if_pos hneg])
    go_enter Tryd.func21, Tryd.ntmps21
    go_wp2
    go_ret
    exact ⟨by rw [HB.out]; rfl, rfl⟩
  · have HA := Lib.hid (show placeV v n = v.tmod n by unfold placeV; rw [if_neg hneg])
    have hge : 0 ≤ v.tmod n := by omega
    go_enter Tryd.func21, Tryd.ntmps21
    go_wp2
    go_ret
    exact ⟨by rw [HA.out]; rfl, rfl⟩

/-- One of a row of numbers, by its place. -/
theorem run_index_ints {t n : Nat} (hu : Tryd.prog.underlying t = some (.array n 21)) (xs : List Int) (hl : xs.length = n) (j : Int) (h0 : 0 ≤ j) (h1 : j < n) (w : World) :
    (Instr.index t (.agg (xs.map (Value.int .i32)).toArray) (.int .i32 j)).run Tryd.prog w = .ok (.int .i32 (xs.getD j.toNat 0)) w := by
  have hj : j.toNat < xs.length := by omega
  have hs : (Tryd.prog.info? 21).map (·.size) = some 1 := by kernel_rfl
  simp [Instr.index, run_underlying hu, asIntOf, h0, h1, go_sem]
  simp [hj]

/-- The rows that Rune picks from. -/
theorem pick_of {t n : Nat} (hu : Tryd.prog.underlying t = some (.array n 21)) (xs : List Int) (hl : xs.length = n) (m : Int) (hx : xs.all (fun x => decide (0 ≤ x) && decide (x ≤ m)) = true) (j : Int) (h0 : 0 ≤ j) (h1 : j < n) :
    ∃ c, 0 ≤ c ∧ c ≤ m ∧ ∀ w, (Instr.index t (.agg (xs.map (Value.int .i32)).toArray) (.int .i32 j)).run Tryd.prog w = .ok (.int .i32 c) w := by
  have hj : j.toNat < xs.length := by omega
  have hg : xs.getD j.toNat 0 ∈ xs := by
    rw [List.getD_eq_getElem?_getD, List.getElem?_eq_getElem hj]; exact List.getElem_mem hj
  have := bound_of_all hx _ hg
  exact ⟨_, this.1, this.2, fun w => run_index_ints hu xs hl j h0 h1 w⟩
set_option maxRecDepth 100000 in
set_option maxHeartbeats 4000000 in
theorem rune_calls (w : World) (v : Int) : Calls Tryd.prog 27 #[.int .i64 v] w fun e w' => (∃ c, e = .returned (.int .i32 c) ∧ InI32 c) ∧ w = w' := by
  have p0 := placeV_ge v 1099511627776 (by omega)
  have p1 := placeV_lt v 1099511627776 (by omega)
  obtain ⟨q, hq⟩ : ∃ q, q = placeV v 1099511627776 := ⟨_, rfl⟩
  have Hq := Lib.hid hq
  rw [← hq] at p0 p1
  clear hq
  obtain ⟨c12, a12, b12, r12⟩ := pick_of Tryd.underlying78 [65, 69, 79, 97, 101, 111, 2325, 2344, 4352, 4370, 12363, 2503] rfl 12363 (by kernel_rfl) (q / 16 % 100000 % 12) (by omega) (by omega)
  obtain ⟨c24, a24, b24, r24⟩ := pick_of Tryd.underlying79 [768, 769, 770, 771, 772, 774, 775, 776, 778, 780, 803, 807, 808, 795, 837, 820, 2364, 12441, 12442, 1456, 1460, 824, 834, 2494] rfl 12442 (by kernel_rfl) (q / 16 % 100000 % 24) (by omega) (by omega)
  obtain ⟨c16, a16, b16, r16⟩ := pick_of Tryd.underlying80 [8491, 8486, 8490, 832, 833, 836, 884, 894, 2392, 2399, 63744, 64109, 194560, 119134, 64300, 10972] rfl 194560 (by kernel_rfl) (q / 16 % 16) (by omega) (by omega)
  obtain ⟨c3, a3, b3, r3⟩ := pick_of Tryd.underlying73 [4352, 4449, 4519] rfl 4519 (by kernel_rfl) (q / 16 % 100000 % 3) (by omega) (by omega)
  obtain ⟨c8, a8, b8, r8⟩ := pick_of Tryd.underlying81 [128512, 65536, 1114109, 57344, 64307, 65533, 55295, 8232] rfl 1114109 (by kernel_rfl) (q / 16 % 8) (by omega) (by omega)
  simp only [List.map_cons, List.map_nil] at r12 r24 r16 r3 r8
  go_enter Tryd.func27, Tryd.ntmps27
  go_wp2_with (go_at_call 21; refine (place_calls _ _ _ (by omega) (by omega)).mono ?_; rintro e w' ⟨rfl, rfl⟩; rw [← Hq.out])
  all_goals
    go_ret
    exact ⟨⟨_, rfl, by unfold InI32; omega⟩, rfl⟩
end Go.Proofs.YtejikiebhjiocaaDoor
