/- The closure of ucd.entries hands out the entries of its text. -/
import Derived.Test.YtejikiebhjiocaaDoorSp
import Derived.Test.YtejikiebhjiocaaDoorEn
import Derived.WalkSmall
import Derived.Lib.SmallJoins
import Derived.KernelRfl
import Derived.Shelf.RegionOpen
set_option linter.unusedVariables false
set_option linter.unusedSimpArgs false
namespace Go.Proofs.YtejikiebhjiocaaDoor
open Go.RowKit Go.Shelf
attribute [local go_sem] Oper.semAt_some

/-- The library's table of white space lies in memory. -/
def SpaceIs (w : World) : Prop := Lib.TabIs Tryd.prog w "strings.asciiSpace" .u8 Lib.asciiSpaceTab

theorem lines_calls (s : ByteArray) (w : World) : Calls Tryd.prog 61 #[.string s] w fun e w' => e = .returned (.func (.func 71) #[] #[.pointer (some ⟨w.heap.size, 0, none⟩)]) ∧ w' = w.alloc (.cells #[.string s] 9) := by
  go_enter Tryd.func61, Tryd.ntmps61
  go_wp2
  go_ret
  exact ⟨rfl, rfl⟩

theorem splitSeq_calls (s p : ByteArray) (n : Int) (w : World) : Calls Tryd.prog 73 #[.string s, .string p, .int .i64 n] w fun e w' =>
    e = .returned (.func (.func 83) #[] #[.pointer (some ⟨w.heap.size + 1, 0, none⟩), .pointer (some ⟨w.heap.size, 0, none⟩), .pointer (some ⟨w.heap.size + 2, 0, none⟩)]) ∧
      w' = ((w.alloc (.cells #[.string s] 9)).alloc (.cells #[.string p] 9)).alloc (.cells #[.int .i64 n] 3) := by
  go_enter Tryd.func73, Tryd.ntmps73
  go_wp2
  go_ret
  exact ⟨rfl, rfl⟩

theorem SplitSeq_calls (s p : ByteArray) (w : World) : Calls Tryd.prog 62 #[.string s, .string p] w fun e w' =>
    e = .returned (.func (.func 83) #[] #[.pointer (some ⟨w.heap.size + 1, 0, none⟩), .pointer (some ⟨w.heap.size, 0, none⟩), .pointer (some ⟨w.heap.size + 2, 0, none⟩)]) ∧
      w' = ((w.alloc (.cells #[.string s] 9)).alloc (.cells #[.string p] 9)).alloc (.cells #[.int .i64 0] 3) := by
  go_enter Tryd.func62, Tryd.ntmps62
  go_wp2_with (go_at_call 73; refine (splitSeq_calls _ _ _ _).mono ?_; rintro e w' ⟨rfl, rfl⟩)
  go_ret
  exact ⟨rfl, rfl⟩

theorem entries_calls (s : ByteArray) (w : World) : Calls Tryd.prog 40 #[.string s] w fun e w' => e = .returned (.func (.func 60) #[] #[.pointer (some ⟨w.heap.size, 0, none⟩)]) ∧ w' = w.alloc (.cells #[.string s] 9) := by
  go_enter Tryd.func40, Tryd.ntmps40
  go_wp2
  go_ret
  exact ⟨rfl, rfl⟩

theorem trim_calls (s : List UInt8) (w : World) (hs : s.length ≤ 9223372036854775807) (ha : ∀ b ∈ s, b.toNat < 128) (hsp : SpaceIs w) :
    Calls Tryd.prog 63 #[.string (txt s)] w fun e w' => e = .returned (.string (txt (Lib.trimSpace s))) ∧ w' = Lib.bytesWorld w 5 (txt s) :=
  (Tryd.strings_TrimSpace (txt s) w (by rw [txt_size]; exact hs) (by intro j b hb; rw [txt_toList] at hb; exact ha b (List.mem_of_getElem? hb)) hsp).mono fun e w' ⟨h1, h2⟩ => ⟨by rw [h1, txt_toList]; rfl, h2⟩

/-- What an entry hands to yield. -/
def rowOf (s : List UInt8) : Array Value :=
  #[.agg #[.int .i32 (entU (Lib.trimSuffix s [33]) 0 0 0 0).1, .int .i32 (entU (Lib.trimSuffix s [33]) 0 0 0 0).2.1, .int .i32 (entU (Lib.trimSuffix s [33]) 0 0 0 0).2.2], .bool (Lib.hasSuffix s [33])]
/-- The entries of a line: the parts that are not empty. -/
def lineParts (s : List UInt8) : List (List UInt8) := (partsOf 44 (Lib.trimSpace s)).filter (fun p => !p.isEmpty)
/-- The entries of a text. -/
def textParts (s : List UInt8) : List (List UInt8) := (linesOf s).flatMap lineParts


theorem take_succ_some {α : Type} {L : List α} {i : Nat} {x : α} (h : L[i]? = some x) : L.take (i + 1) = L.take i ++ [x] := by
  obtain ⟨hlt, rfl⟩ := List.getElem?_eq_some_iff.1 h
  rw [List.take_succ_eq_append_getElem hlt]
theorem split_at {α : Type} {L : List α} {i : Nat} {x : α} (h : L[i]? = some x) : L = L.take i ++ x :: L.drop (i + 1) := by
  obtain ⟨hlt, rfl⟩ := List.getElem?_eq_some_iff.1 h
  rw [← List.drop_eq_getElem_cons hlt, List.take_append_drop]
theorem textParts_at {s ln q : List UInt8} {i j : Nat} (hln : (linesOf s)[i]? = some ln) (hq : (partsOf 44 (Lib.trimSpace ln))[j]? = some q) (hne : q ≠ []) :
    (textParts s)[(((linesOf s).take i).flatMap lineParts).length + (((partsOf 44 (Lib.trimSpace ln)).take j).filter (fun p => !p.isEmpty)).length]? = some q := by
  have e1 : textParts s = ((linesOf s).take i).flatMap lineParts ++ (lineParts ln ++ ((linesOf s).drop (i + 1)).flatMap lineParts) := by
    unfold textParts
    conv => lhs; rw [split_at hln]
    simp
  have e2 : lineParts ln = ((partsOf 44 (Lib.trimSpace ln)).take j).filter (fun p => !p.isEmpty) ++ q :: ((partsOf 44 (Lib.trimSpace ln)).drop (j + 1)).filter (fun p => !p.isEmpty) := by
    unfold lineParts
    conv => lhs; rw [split_at hq]
    rw [List.filter_append, List.filter_cons, if_pos (by simpa using hne)]
  rw [e1, e2, List.getElem?_append_right (by omega), Nat.add_sub_cancel_left, List.append_assoc, List.getElem?_append_right (by omega), Nat.sub_self]
  rfl
theorem linesOf_sub : ∀ {s : List UInt8} {l : List UInt8}, l ∈ linesOf s → ∀ b ∈ l, b ∈ s
  | [], l, h => by simp [linesOf] at h
  | c :: cs, l, h => by
    unfold linesOf at h
    split at h
    · rcases List.mem_cons.1 h with rfl | h
      · intro b hb; simp at hb; simp [hb]
      · intro b hb; exact List.mem_cons_of_mem _ (linesOf_sub h b hb)
    · have ih := @linesOf_sub cs
      split at h
      · simp at h; subst h; intro b hb; simp at hb; simp [hb]
      · rename_i l0 ls e
        rw [e] at ih
        rcases List.mem_cons.1 h with rfl | h
        · intro b hb
          rcases List.mem_cons.1 hb with rfl | hb
          · exact List.mem_cons_self
          · exact List.mem_cons_of_mem _ (ih List.mem_cons_self b hb)
        · intro b hb; exact List.mem_cons_of_mem _ (ih (List.mem_cons_of_mem _ h) b hb)
theorem linesOf_le : ∀ {s : List UInt8} {l : List UInt8}, l ∈ linesOf s → l.length ≤ s.length
  | [], l, h => by simp [linesOf] at h
  | c :: cs, l, h => by
    unfold linesOf at h
    split at h
    · rcases List.mem_cons.1 h with rfl | h
      · simp
      · have := linesOf_le h; simp; omega
    · have ih := @linesOf_le cs
      split at h
      · simp at h; subst h; simp
      · rename_i l0 ls e
        rw [e] at ih
        rcases List.mem_cons.1 h with rfl | h
        · have := ih List.mem_cons_self; simp; omega
        · have := ih (List.mem_cons_of_mem _ h); simp; omega
theorem partsOf_le (c : UInt8) : ∀ {s : List UInt8} {l : List UInt8}, l ∈ partsOf c s → l.length ≤ s.length
  | [], l, h => by simp [partsOf] at h; simp [h]
  | x :: xs, l, h => by
    unfold partsOf at h
    split at h
    · rcases List.mem_cons.1 h with rfl | h
      · simp
      · have := partsOf_le c h; simp; omega
    · have ih := @partsOf_le c xs
      split at h
      · simp at h; subst h; simp
      · rename_i l0 ls e
        rw [e] at ih
        rcases List.mem_cons.1 h with rfl | h
        · have := ih List.mem_cons_self; simp; omega
        · have := ih (List.mem_cons_of_mem _ h); simp; omega
theorem dropWhile_len {α : Type} (p : α → Bool) : ∀ l : List α, (l.dropWhile p).length ≤ l.length
  | [] => by simp
  | x :: xs => by
    rw [List.dropWhile_cons]
    split
    · have := dropWhile_len p xs; simp; omega
    · simp
theorem trimSpace_le (l : List UInt8) : (Lib.trimSpace l).length ≤ l.length := by
  unfold Lib.trimSpace
  rw [List.length_reverse]
  have h1 := dropWhile_len Lib.isSp (l.dropWhile Lib.isSp).reverse
  have h2 := dropWhile_len Lib.isSp l
  rw [List.length_reverse] at h1
  omega

set_option maxRecDepth 100000 in
set_option maxHeartbeats 4000000 in
theorem entries1 (s : List UInt8) (hs : s.length ≤ 9223372036854775807) (ha : ∀ b ∈ s, b.toNat < 128) (Tb B : Nat) :
    IterAll itE B Tryd.prog 60 #[.pointer (some ⟨Tb, 0, none⟩)] ((textParts s).map rowOf)
      (fun l D W => W.cell? ⟨Tb, 0, none⟩ = some (.string (txt s)) ∧ B ≤ W.heap.size ∧ l < W.heap.size ∧ D < W.heap.size) SpaceIs := by
  intro l D J W hPre hG hst hY h0
  obtain ⟨hb, hBW, hlW, hDW⟩ := hPre
  refine (callsIn_wide (n := 9)).1 ?_
  refine callsIn_of_wp_marks Tryd.func60 rfl trivial ?_ rfl
  simp only [Tryd.ntmps60, List.size_toArray, List.length_cons, List.length_nil, Nat.reduceAdd, Nat.reduceSub, Array.replicate_succ, Array.replicate_zero, List.push_toArray, List.append_toArray, List.nil_append, List.cons_append]
  have hbl := World.block_lt_of_cell? W _ hb
  gi_wp2_with (refine ⟨trivial, ?_⟩; gi_at_call 61; refine (callsIn_wide.2 (lines_calls _ _)).mono ?_; rintro e w' ⟨rfl, rfl⟩)
  obtain ⟨W0, hW0⟩ : ∃ W0, W0 = (W.alloc (.cells #[.func (.yield l) #[] #[]] 100)).alloc (.cells #[.string (txt s)] 9) := ⟨_, rfl⟩
  have hsz : W.heap.size + 2 ≤ W0.heap.size := by rw [hW0]; simp
  have bY : Boxed W0 W.heap.size 100 (.func (.yield l) #[] #[]) := by rw [hW0]; exact (Boxed.new W _ _).alloc _
  have bL : Boxed W0 (W.heap.size + 1) 9 (.string (txt s)) := by
    rw [hW0]; have := Boxed.new (W.alloc (.cells #[.func (.yield l) #[] #[]] 100)) 9 (.string (txt s)); rwa [World.size_alloc] at this
  have hJ0 : J 0 W0 := by rw [hW0]; exact hst _ _ _ h0 (((ItStep.refl _ _ _ _).alloc _).alloc _)
  rw [← hW0]
  clear hW0 h0 hb
  obtain ⟨cnt, hcnt⟩ : ∃ cnt : Nat → Nat, cnt = fun j => (((linesOf s).take j).flatMap lineParts).length := ⟨_, rfl⟩
  have Hc := Lib.hid hcnt
  have hX1 : ∀ k, recs l D k → nil0 k ∨ k < W.heap.size + 1 := by rintro k (rfl | rfl) <;> exact .inr (by omega)
  clear hcnt
  refine wpIn_iter (gf := 71) (lb := #[.pointer (some ⟨W.heap.size + 1, 0, none⟩)]) rfl (enters_of Tryd.func71 (by kernel_rfl) rfl)
    (lines1 s hs (W.heap.size + 1) (W.heap.size + 1) (Nat.le_refl _)) (by omega) (by intro x hx; obtain ⟨y, _, rfl⟩ := List.mem_map.1 hx; rfl)
    (fun o1 o2 => ⟨(bL.alloc o1).alloc o2, by omega, by omega⟩)
    (fun j W' => J (cnt j) W' ∧ Boxed W' W.heap.size 100 (.func (.yield l) #[] #[])) (fun _ _ _ => trivial)
    (fun j W1 W2 h st => ⟨hst _ _ _ h.1 (st.mono (by omega) hX1), st.block _ _ h.2 (.inr (.inl (by omega)))⟩)
    ⟨by rw [Hc.out]; exact hJ0, bY⟩
    (fun j a' W' => ∃ ln, (linesOf s)[j]? = some ln ∧ a' = { tmps := #[.func (.yield l) #[] #[], .pointer (some ⟨Tb, 0, none⟩), .pointer (some ⟨W.heap.size, 0, none⟩), .string (txt ln), undef, .string (txt s),
          .func (.func 71) #[] #[.pointer (some ⟨W.heap.size + 1, 0, none⟩)], .string (txt ln), undef, undef, undef, undef, undef, undef, undef, undef, undef, undef, undef, undef, undef, undef, undef], defers := [] })
    (fun _ _ _ _ h _ => h) ?assign ?body ?done
  case assign =>
    intro i h W1 K hi hK
    have hlt : i < (linesOf s).length := by simpa using h
    obtain ⟨ln, hln⟩ : ∃ ln, ln = (linesOf s)[i] := ⟨_, rfl⟩
    have e : ((linesOf s).map one)[i] = #[Value.string (txt ln)] := by simp [one, hln]
    rw [e]
    have hK' := hK _ _ (ItKeeps.refl _ _ _ _) hi ⟨ln, by rw [List.getElem?_eq_getElem hlt, hln], rfl⟩
    clear hln e hK hi
    gi_wp2
    exact hK'
  case body =>
    rintro i h a' W1 hlt ⟨r, hr⟩ ⟨hJ1, hY1⟩ ⟨ln, hln, rfl⟩
    have hlm : ln ∈ linesOf s := List.mem_of_getElem? hln
    have hlen : ln.length ≤ 9223372036854775807 := Nat.le_trans (linesOf_le hlm) hs
    have hasc : ∀ b ∈ ln, b.toNat < 128 := fun b hb => ha b (linesOf_sub hlm b hb)
    have hsp := hG _ _ hJ1
    gi_wp2_with (first
      | (refine ⟨trivial, rfl, ?_⟩; gi_at_call 63; refine (CallsIn.inRound _ (callsIn_wide.2 (trim_calls _ _ hlen hasc hsp))).mono ?_; rintro e w' ⟨rfl, rfl⟩)
      | (refine ⟨trivial, rfl, ?_⟩; gi_at_call 62; refine (CallsIn.inRound _ (callsIn_wide.2 (SplitSeq_calls _ _ _))).mono ?_; rintro e w' ⟨rfl, rfl⟩))
    obtain ⟨W2, hW2⟩ : ∃ W2, W2 = Lib.bytesWorld W1 5 (txt ln) := ⟨_, rfl⟩
    have hB2 : Below W1.heap.size W1 W2 := by rw [hW2]; exact Go.Joins.below_bytesWorld _ _ _ _ (Nat.le_refl _)
    rw [← hW2]
    clear hW2 hsp
    obtain ⟨u, hu⟩ : ∃ u, u = Lib.trimSpace ln := ⟨_, rfl⟩
    rw [← hu]
    have hul : u.length ≤ 9223372036854775807 := by rw [hu]; exact Nat.le_trans (trimSpace_le ln) hlen
    have Hu := Lib.hid hu
    clear hu
    obtain ⟨W3, hW3⟩ : ∃ W3, W3 = ((W2.alloc (.cells #[.string (txt u)] 9)).alloc (.cells #[.string ⟨#[44]⟩] 9)).alloc (.cells #[.int .i64 0] 3) := ⟨_, rfl⟩
    have hB3 : Below W1.heap.size W1 W3 := by rw [hW3]; exact ((hB2.alloc hB2.size _).alloc (Nat.le_trans hB2.size (by simp)) _).alloc (Nat.le_trans hB2.size (by simp; omega)) _
    have hs3 : W2.heap.size + 3 ≤ W3.heap.size := by rw [hW3]; simp
    have b1 : Boxed W3 W2.heap.size 9 (.string (txt u)) := by rw [hW3]; exact ((Boxed.new W2 _ _).alloc _).alloc _
    have b2 : Boxed W3 (W2.heap.size + 1) 9 (.string ⟨#[44]⟩) := by
      rw [hW3]; have := (Boxed.new (W2.alloc (.cells #[.string (txt u)] 9)) 9 (.string ⟨#[44]⟩)).alloc (.cells #[.int .i64 0] 3); rwa [World.size_alloc] at this
    have b3 : Boxed W3 (W2.heap.size + 2) 3 (.int .i64 0) := by
      rw [hW3]; have := Boxed.new ((W2.alloc (.cells #[.string (txt u)] 9)).alloc (.cells #[.string ⟨#[44]⟩] 9)) 3 (.int .i64 0); rwa [World.size_alloc, World.size_alloc] at this
    rw [← hW3]
    clear hW3
    have hr3 : W3.heap[W0.heap.size + 1]? = some (.loop r) := (hB3.block _ hlt).trans hr
    have hY3 : Boxed W3 W.heap.size 100 (.func (.yield l) #[] #[]) := (hB3.block _ (by omega)).trans hY1
    have hJ3 : J (cnt i) W3 := hst _ _ _ hJ1 (ItStep.of_below hB3 (Nat.le_refl _))
    have hs12 := hB2.size
    obtain ⟨cnt2, hcnt2⟩ : ∃ cnt2 : Nat → Nat, cnt2 = fun j => (((partsOf 44 u).take j).filter (fun p => !p.isEmpty)).length := ⟨_, rfl⟩
    have Hc2 := Lib.hid hcnt2
    have hX2 : ∀ k, recs l D k → nil0 k ∨ k < W1.heap.size := by rintro k (rfl | rfl) <;> exact .inr (by omega)
    clear hcnt2
    refine wpIn_iter_in (l₀ := W0.heap.size + 1) (r₀ := r) hr3 (gf := 83) (lb := #[.pointer (some ⟨W2.heap.size + 1, 0, none⟩), .pointer (some ⟨W2.heap.size, 0, none⟩), .pointer (some ⟨W2.heap.size + 2, 0, none⟩)]) rfl
      (enters_of Tryd.func83 (by kernel_rfl) rfl)
      (split1 u hul 44 (W2.heap.size + 1) W2.heap.size (W2.heap.size + 2) W1.heap.size hs12) hB3.size (by intro x hx; obtain ⟨y, _, rfl⟩ := List.mem_map.1 hx; rfl)
      (fun o1 => ⟨b1.alloc o1, by omega, by omega, b2.alloc o1, by omega, by omega, by omega, b3.alloc o1, by omega, by omega⟩)
      (fun j W' => J (cnt i + cnt2 j) W' ∧ Boxed W' W.heap.size 100 (.func (.yield l) #[] #[]) ∧ ItKeeps itE (W.heap.size + 1) nil0 W1 W') (fun _ _ _ => trivial)
      (fun j Wa Wb h st => ⟨hst _ _ _ h.1 (st.mono (by omega) hX2), st.block _ _ h.2.1 (.inr (.inl (by omega))), h.2.2.step st (Nat.le_refl _)⟩)
      ⟨by rw [Hc2.out]; exact hJ3, hY3, ItKeeps.of_below hB3 (Nat.le_refl _)⟩
      (fun j a' W' => ∃ p, (partsOf 44 u)[j]? = some p ∧ a' = { tmps := #[.func (.yield l) #[] #[], .pointer (some ⟨Tb, 0, none⟩), .pointer (some ⟨W.heap.size, 0, none⟩), .string (txt ln), .string (txt p), .string (txt s),
          .func (.func 71) #[] #[.pointer (some ⟨W.heap.size + 1, 0, none⟩)], .string (txt ln), .string (txt ln), .string (txt u),
          .func (.func 83) #[] #[.pointer (some ⟨W2.heap.size + 1, 0, none⟩), .pointer (some ⟨W2.heap.size, 0, none⟩), .pointer (some ⟨W2.heap.size + 2, 0, none⟩)], .string (txt p),
          undef, undef, undef, undef, undef, undef, undef, undef, undef, undef, undef], defers := [] })
      (fun _ _ _ _ h _ => h) ?assign2 ?body2 ?done2
    case assign2 =>
      intro j h2 W4 K hi hK
      have hlt2 : j < (partsOf 44 u).length := by simpa using h2
      obtain ⟨q, hq⟩ : ∃ q, q = (partsOf 44 u)[j] := ⟨_, rfl⟩
      have e : ((partsOf 44 u).map one)[j] = #[Value.string (txt q)] := by simp [one, hq]
      rw [e]
      have hK' := hK _ _ (ItKeeps.refl _ _ _ _) hi ⟨q, by rw [List.getElem?_eq_getElem hlt2, hq], rfl⟩
      clear hq e hK hi
      gi_wp2
      exact hK'
    case body2 =>
      rintro j h2 a' W4 hlt4 ⟨r2, hr2⟩ ⟨hJ4, hY4, hk4⟩ ⟨q, hq, rfl⟩
      have cY := hY4.cell
      by_cases hqe : q = []
      · subst hqe
        have ht : txt [] = ⟨#[]⟩ := rfl
        have hmix : Tryd.prog.follows .mixedOrders = true := by kernel_rfl
        gi_wp2
        gi_region_with_o (first | (refine ⟨trivial, ?_⟩) | (refine ⟨fun _ h => (by cases h), ?_⟩))
        all_goals
          gi_wp2
          refine ⟨(ItKeeps.refl _ _ _ _).drew, ?_, hY4, hk4.drew⟩
          have e : cnt2 (j + 1) = cnt2 j := by rw [Hc2.out]; simp only; rw [take_succ_some hq]; simp
          rw [e]
          exact hst _ _ _ hJ4 (ItStep.refl _ _ _ _).drew
      · have hmix : Tryd.prog.follows .mixedOrders = true := by kernel_rfl
        have hql : (txt q).toList = q := by rw [Lib.toList_data]; exact txt_toList q
        have hqi : q.isEmpty = false := by simpa using hqe
        have hqm : q ∈ partsOf 44 u := List.mem_of_getElem? hq
        have hqs : q.length ≤ 9223372036854775807 := Nat.le_trans (partsOf_le 44 hqm) hul
        have hat : ((textParts s).map rowOf)[cnt i + cnt2 j]? = some (rowOf q) := by
          have := textParts_at hln (Hu.out ▸ hq) hqe
          rw [Hc.out, Hc2.out, Hu.out]
          simp only [List.getElem?_map, this, Option.map_some]
        obtain ⟨hidx, hrow⟩ := List.getElem?_eq_some_iff.1 hat
        have hyy := fun W5 hJ5 => hrow ▸ hY (cnt i + cnt2 j) W5 hidx hJ5
        have Hyy := Lib.hid hyy
        have Hq := Lib.hid hq
        clear hyy hat hrow hY hq hqm
        gi_wp2
        gi_region_with_o (first
          | (refine ⟨trivial, rfl, ?_⟩; gi_at_call 64; refine (CallsIn.inRound _ (callsIn_wide.2 (entry_calls _ _ hqs))).mono ?_; rintro e w' ⟨rfl, hbe⟩; (have cY2 := (hbe.cell (p := ⟨W.heap.size, 0, none⟩) hY4.lt).trans cY); (obtain ⟨fn1, tm1, as1, bd1, hy1, hR1⟩ := Hyy.out _ (hst _ _ _ hJ4 ((ItStep.refl _ _ _ W4).drew.trans (ItStep.of_below hbe (Nat.le_refl _))))); simp only [rowOf] at hy1)
          | (refine (roundIn_round hR1).mono ?_; rintro e W5 ⟨rfl, hJ5, hk5⟩)
          | (refine ⟨rfl, (roundIn_round hR1).mono ?_⟩; rintro e W5 ⟨rfl, hJ5, hk5⟩))
        all_goals
          gi_wp2
          have hbW : Below W4.heap.size W4 w' := (Below.refl _ W4).drew.trans hbe
          refine ⟨(ItKeeps.of_below hbW (Nat.le_refl _)).trans (hk5.mono (by omega) (fun k hk e => by subst e; omega)), ?_, ?_, ?_⟩
          · have e : cnt i + cnt2 (j + 1) = cnt i + cnt2 j + 1 := by
              rw [Hc2.out]; simp only; rw [take_succ_some Hq.out, List.filter_append]; simp [hqi]; omega
            rw [e]; exact hJ5
          · exact hk5.box ((hbW.block _ hY4.lt).trans hY4) rfl hBW (by omega)
          · exact (hk4.trans (ItKeeps.of_below hbW (Nat.le_refl _))).trans (hk5.mono (by omega) (fun k hk e => by subst e; omega))
    case done2 =>
      rintro W4 hlt4 ⟨hJ4, hY4, hk4⟩
      have e : J (cnt (i + 1)) W4 := by
        have e2 : cnt (i + 1) = cnt i + cnt2 ((partsOf 44 u).map one).length := by
          rw [Hc.out, Hc2.out]; simp only [List.length_map, List.take_length]; rw [take_succ_some hln, List.flatMap_append, List.length_append, Hu.out]
          simp [lineParts]
        rw [e2]; exact hJ4
      clear hln hJ4
      gi_wp2
      exact ⟨hk4, e, hY4⟩
  case done =>
    rintro W1 hlt1 ⟨hJ1, hY1⟩ hD
    have e : J ((textParts s).map rowOf).length W1 := by
      have e2 : ((textParts s).map rowOf).length = cnt ((linesOf s).map one).length := by
        rw [Hc.out]; simp [textParts]
      rw [e2]; exact hJ1
    clear hJ1
    gi_wp2
    refine ⟨by simp, .inl ⟨_, _, rfl, run_takeDeferred hD, ?_⟩⟩
    refine ⟨_, results_none rfl _ _ _, ⟨_, rfl⟩, ?_⟩
    exact hst _ _ _ e ((ItStep.refl _ _ _ _).putObj _ hD (by simp [itObj]) (by simp [itObj]) (by omega) (by rintro (h | h) <;> omega))
end Go.Proofs.YtejikiebhjiocaaDoor
