/- The order of marks, in plain lists. -/
import Derived.Lib.Hide
set_option linter.unusedVariables false
set_option linter.unusedSimpArgs false
namespace Go.Proofs.YtejikiebhjiocaaDoor

/-- One more, into a row that stands turned round. -/
def insR (f : Int → Int) (c : Int) : List Int → List Int
  | [] => [c]
  | x :: r => if 0 < f c ∧ f c < f x then x :: insR f c r else c :: x :: r
def ordR (f : Int → Int) (l : List Int) : List Int := l.foldl (fun r c => insR f c r) []
/-- A row in order. -/
def ordL (f : Int → Int) (l : List Int) : List Int := (ordR f l).reverse

theorem insR_length (f : Int → Int) (c : Int) : ∀ r, (insR f c r).length = r.length + 1
  | [] => rfl
  | x :: r => by
    unfold insR
    split
    · simp [insR_length f c r]
    · simp
theorem ordR_snoc (f : Int → Int) (l : List Int) (c : Int) : ordR f (l ++ [c]) = insR f c (ordR f l) := by simp [ordR]
theorem ordR_length (f : Int → Int) (l : List Int) : (ordR f l).length = l.length := by
  suffices h : ∀ r, (l.foldl (fun r c => insR f c r) r).length = r.length + l.length by simpa [ordR] using h []
  induction l with
  | nil => simp
  | cons c l ih => intro r; rw [List.foldl_cons, ih, insR_length]; simp; omega
theorem ordL_length (f : Int → Int) (l : List Int) : (ordL f l).length = l.length := by simp [ordL, ordR_length]
theorem ordL_take (f : Int → Int) (l : List Int) (k : Nat) (h : k < l.length) : ordL f (l.take (k + 1)) = (insR f l[k] (ordL f (l.take k)).reverse).reverse := by
  unfold ordL
  rw [List.take_succ_eq_append_getElem h, ordR_snoc, List.reverse_reverse]

theorem insR_skip (f : Int → Int) (c : Int) : ∀ (q r : List Int), 0 < f c → (∀ x ∈ q, f c < f x) → insR f c (q ++ r) = q ++ insR f c r
  | [], r, _, _ => rfl
  | x :: q, r, h0, hq => by
    have e : insR f c (x :: (q ++ r)) = if 0 < f c ∧ f c < f x then x :: insR f c (q ++ r) else c :: x :: (q ++ r) := rfl
    rw [List.cons_append, e, if_pos ⟨h0, hq x List.mem_cons_self⟩, insR_skip f c q r h0 fun y hy => hq y (List.mem_cons_of_mem _ hy)]
    rfl
theorem insR_stop (f : Int → Int) (c : Int) (r : List Int) (h : ∀ x r', r = x :: r' → ¬ (0 < f c ∧ f c < f x)) : insR f c r = c :: r := by
  cases r with
  | nil => rfl
  | cons x r' => unfold insR; rw [if_neg (h x r' rfl)]
/-- What the loop finds. -/
theorem ins_at (f : Int → Int) (c : Int) (out : List Int) (k : Nat) (hk : k ≤ out.length) (hq : ∀ j, (h : j < out.length) → k ≤ j → 0 < f c ∧ f c < f out[j]) (hs : (h : 0 < k) → ¬ (0 < f c ∧ f c < f (out[k - 1]'(by omega)))) :
    (insR f c out.reverse).reverse = out.take k ++ c :: out.drop k := by
  have hsplit : out.reverse = (out.drop k).reverse ++ (out.take k).reverse := by rw [← List.reverse_append, List.take_append_drop]
  have hstop : insR f c (out.take k).reverse = c :: (out.take k).reverse := by
    refine insR_stop _ _ _ fun x r' e => ?_
    have hl : (out.take k).length = k := by rw [List.length_take]; omega
    have h0 : 0 < k := by
      rcases Nat.eq_zero_or_pos k with h | h
      · subst h; simp at e
      · exact h
    have hx : (out.take k).reverse[0]? = some x := by rw [e]; rfl
    rw [List.getElem?_reverse (by omega), hl, List.getElem?_take_of_lt (by omega), Nat.sub_zero, List.getElem?_eq_getElem (by omega)] at hx
    cases hx
    exact hs h0
  rw [hsplit]
  by_cases hd : out.drop k = []
  · rw [hd]; simp [hstop]
  · have hlt : k < out.length := by
      rcases Nat.lt_or_ge k out.length with h | h
      · exact h
      · exact absurd (List.drop_eq_nil_iff.2 h) hd
    rw [insR_skip f c _ _ (hq k hlt (Nat.le_refl _)).1, hstop]
    · simp
    · intro x hx
      rw [List.mem_reverse] at hx
      obtain ⟨i, hi, rfl⟩ := List.getElem_of_mem hx
      rw [List.length_drop] at hi
      rw [List.getElem_drop]
      exact (hq (k + i) (by omega) (by omega)).2

/-! What the order keeps. -/
theorem insR_filter (f : Int → Int) (c k : Int) : ∀ r, (insR f c r).filter (fun x => decide (f x = k)) = (c :: r).filter (fun x => decide (f x = k))
  | [] => rfl
  | x :: r => by
    unfold insR
    split
    · rename_i h
      rw [List.filter_cons, insR_filter f c k r]
      simp only [List.filter_cons]
      by_cases h1 : f x = k
      · have h2 : ¬ f c = k := by omega
        simp [h1, h2]
      · simp [h1]
    · rfl
theorem ordR_filter (f : Int → Int) (k : Int) (l : List Int) : (ordR f l).filter (fun x => decide (f x = k)) = (l.filter (fun x => decide (f x = k))).reverse := by
  suffices h : ∀ r, (l.foldl (fun r c => insR f c r) r).filter (fun x => decide (f x = k)) = (l.filter (fun x => decide (f x = k))).reverse ++ r.filter (fun x => decide (f x = k)) by simpa [ordR] using h []
  induction l with
  | nil => simp
  | cons c l ih =>
    intro r
    rw [List.foldl_cons, ih, insR_filter]
    simp only [List.filter_cons]
    split <;> simp
theorem ordL_filter (f : Int → Int) (k : Int) (l : List Int) : (ordL f l).filter (fun x => decide (f x = k)) = l.filter (fun x => decide (f x = k)) := by
  unfold ordL; rw [List.filter_reverse, ordR_filter, List.reverse_reverse]

theorem insR_wall (f : Int → Int) (c z : Int) (hz : f z = 0) : ∀ (r s : List Int), insR f c (r ++ z :: s) = insR f c (r ++ [z]) ++ s
  | [], s => by
    simp only [List.nil_append]
    unfold insR
    rw [if_neg (by omega), if_neg (by omega)]
    rfl
  | x :: r, s => by
    simp only [List.cons_append]
    unfold insR
    split
    · rw [insR_wall f c z hz r s]; rfl
    · simp
theorem insR_zero (f : Int → Int) (z : Int) (hz : f z = 0) (r : List Int) : insR f z r = z :: r := insR_stop _ _ _ fun _ _ _ h => by omega
/-- Nothing goes past one of class 0. -/
theorem ordR_wall (f : Int → Int) (z : Int) (hz : f z = 0) (s : List Int) : ∀ (l r : List Int), l.foldl (fun r c => insR f c r) (r ++ z :: s) = l.foldl (fun r c => insR f c r) (r ++ [z]) ++ s
  | [], r => by simp
  | c :: l, r => by
    rw [List.foldl_cons, List.foldl_cons, insR_wall f c z hz r s]
    obtain ⟨r', hr'⟩ : ∃ r', insR f c (r ++ [z]) = r' ++ [z] := by
      clear s
      induction r with
      | nil => exact ⟨[c], by simp only [List.nil_append]; unfold insR; rw [if_neg (by omega)]; rfl⟩
      | cons x r ih =>
        obtain ⟨r', h⟩ := ih
        simp only [List.cons_append]
        unfold insR
        split
        · exact ⟨x :: r', by rw [h]; rfl⟩
        · exact ⟨c :: x :: r, by simp⟩
    rw [hr', List.append_assoc, List.singleton_append]
    exact ordR_wall f z hz s l r'
theorem ordL_zero (f : Int → Int) (z : Int) (hz : f z = 0) (a l : List Int) : ordL f (a ++ z :: l) = ordL f a ++ z :: ordL f l := by
  have h1 : ordR f (a ++ z :: l) = l.foldl (fun r c => insR f c r) (z :: ordR f a) := by
    unfold ordR; rw [List.foldl_append, List.foldl_cons, insR_zero f z hz]
  have h2 : ∀ (l r : List Int), l.foldl (fun r c => insR f c r) (r ++ [z]) = l.foldl (fun r c => insR f c r) r ++ [z] := by
    intro l
    induction l with
    | nil => intro r; rfl
    | cons c l ih =>
      intro r
      rw [List.foldl_cons, List.foldl_cons, ← ih]
      congr 1
      induction r with
      | nil => simp only [List.nil_append]; unfold insR; rw [if_neg (by omega)]; rfl
      | cons x r ihr =>
        simp only [List.cons_append]
        unfold insR
        split
        · rw [ihr]; rfl
        · simp
  unfold ordL
  rw [h1]
  have := ordR_wall f z hz (ordR f a) l []
  simp only [List.nil_append] at this
  have h3 := h2 l []
  simp only [List.nil_append] at h3
  rw [this, h3]
  simp [ordR]
end Go.Proofs.YtejikiebhjiocaaDoor
