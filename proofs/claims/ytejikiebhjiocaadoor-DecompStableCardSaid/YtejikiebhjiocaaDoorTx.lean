/- Plain law on texts: the lines of a text (each with its end), the parts between bytes. -/
import Derived.Lib.Bytealg
set_option linter.unusedVariables false
set_option linter.unusedSimpArgs false
namespace Go.Proofs.YtejikiebhjiocaaDoor
open Go Go.Lib

/-- The lines of a text, each with its end (10). -/
def linesOf : List UInt8 → List (List UInt8)
  | [] => []
  | c :: cs => if c = 10 then [c] :: linesOf cs else match linesOf cs with
    | [] => [[c]]
    | l :: ls => (c :: l) :: ls

/-- The parts of a text between bytes c. -/
def partsOf (c : UInt8) : List UInt8 → List (List UInt8)
  | [] => [[]]
  | x :: xs => if x = c then [] :: partsOf c xs else match partsOf c xs with
    | [] => [[x]]
    | l :: ls => (x :: l) :: ls

theorem indexByte_neg {l : List UInt8} {c : UInt8} (h : indexByte l c < 0) : indexByte l c = -1 := by
  have := indexByte_ge l c; omega

theorem indexByte_cons (x : UInt8) (xs : List UInt8) (c : UInt8) : indexByte (x :: xs) c = if x == c then 0 else if indexByte xs c == -1 then -1 else indexByte xs c + 1 := rfl

theorem linesOf_none : ∀ {l : List UInt8}, l ≠ [] → indexByte l 10 < 0 → linesOf l = [l]
  | [], h, _ => absurd rfl h
  | c :: cs, _, h => by
    unfold indexByte at h
    by_cases hc : c = 10
    · simp [hc] at h
    · have hc' : (c == 10) = false := by simp [hc]
      rw [hc'] at h
      have hi : indexByte cs 10 < 0 := by
        by_cases h2 : (indexByte cs 10 == -1) = true
        · have := eq_of_beq h2; omega
        · have h2' : (indexByte cs 10 == -1) = false := by simpa using h2
          rw [h2'] at h
          have := indexByte_ge cs 10
          have h3 : ¬ indexByte cs 10 = -1 := by simpa using h2'
          simp at h; omega
      unfold linesOf
      rw [if_neg hc]
      by_cases hn : cs = []
      · subst hn; rfl
      · rw [linesOf_none hn hi]

theorem linesOf_some : ∀ {l : List UInt8}, 0 ≤ indexByte l 10 → linesOf l = l.take ((indexByte l 10).toNat + 1) :: linesOf (l.drop ((indexByte l 10).toNat + 1)) ∧ (indexByte l 10).toNat < l.length
  | [], h => by simp [indexByte] at h
  | c :: cs, h => by
    by_cases hc : c = 10
    · subst hc; simp [indexByte, linesOf]
    · have hc' : (c == 10) = false := by simp [hc]
      have hge := indexByte_ge cs 10
      have hi : 0 ≤ indexByte cs 10 ∧ indexByte (c :: cs) 10 = indexByte cs 10 + 1 := by
        rw [indexByte_cons, hc'] at h ⊢
        by_cases h2 : (indexByte cs 10 == -1) = true
        · rw [h2] at h; simp at h
        · have h2' : (indexByte cs 10 == -1) = false := by simpa using h2
          have h3 : ¬ indexByte cs 10 = -1 := by simpa using h2'
          rw [h2']
          exact ⟨by omega, by simp⟩
      obtain ⟨h1, h2⟩ := linesOf_some hi.1
      have e : (indexByte (c :: cs) 10).toNat = (indexByte cs 10).toNat + 1 := by rw [hi.2]; omega
      rw [e]
      constructor
      · conv => lhs; unfold linesOf
        rw [if_neg hc, h1]
        simp
      · simp; omega

theorem partsOf_none (c : UInt8) : ∀ {l : List UInt8}, indexByte l c < 0 → partsOf c l = [l]
  | [], _ => rfl
  | x :: xs, h => by
    unfold indexByte at h
    by_cases hc : x = c
    · simp [hc] at h
    · have hc' : (x == c) = false := by simp [hc]
      rw [hc'] at h
      have hi : indexByte xs c < 0 := by
        by_cases h2 : (indexByte xs c == -1) = true
        · have := eq_of_beq h2; omega
        · have h2' : (indexByte xs c == -1) = false := by simpa using h2
          rw [h2'] at h
          have := indexByte_ge xs c
          have h3 : ¬ indexByte xs c = -1 := by simpa using h2'
          simp at h; omega
      unfold partsOf
      rw [if_neg hc, partsOf_none c hi]

theorem partsOf_some (c : UInt8) : ∀ {l : List UInt8}, 0 ≤ indexByte l c → partsOf c l = l.take (indexByte l c).toNat :: partsOf c (l.drop ((indexByte l c).toNat + 1)) ∧ (indexByte l c).toNat < l.length
  | [], h => by simp [indexByte] at h
  | x :: xs, h => by
    by_cases hc : x = c
    · subst hc; simp [indexByte, partsOf]
    · have hc' : (x == c) = false := by simp [hc]
      have hge := indexByte_ge xs c
      have hi : 0 ≤ indexByte xs c ∧ indexByte (x :: xs) c = indexByte xs c + 1 := by
        rw [indexByte_cons, hc'] at h ⊢
        by_cases h2 : (indexByte xs c == -1) = true
        · rw [h2] at h; simp at h
        · have h2' : (indexByte xs c == -1) = false := by simpa using h2
          have h3 : ¬ indexByte xs c = -1 := by simpa using h2'
          rw [h2']
          exact ⟨by omega, by simp⟩
      obtain ⟨h1, h2⟩ := partsOf_some c hi.1
      have e : (indexByte (x :: xs) c).toNat = (indexByte xs c).toNat + 1 := by rw [hi.2]; omega
      rw [e]
      constructor
      · conv => lhs; unfold partsOf
        rw [if_neg hc, h1]
        simp
      · simp; omega

/-- A text of a list of bytes. -/
def txt (l : List UInt8) : ByteArray := ⟨l.toArray⟩
theorem txt_toList (l : List UInt8) : (txt l).data.toList = l := by simp [txt]
theorem txt_size (l : List UInt8) : (txt l).size = l.length := by simp [txt, ByteArray.size]
theorem txt_data (s : ByteArray) : txt s.data.toList = s := by simp [txt]
theorem txt_extract (l : List UInt8) (i j : Nat) : (txt l).extract i j = txt ((l.take j).drop i) := by
  apply ByteArray.ext
  simp only [txt, ByteArray.data_extract]
  apply Array.ext'
  simp [List.extract_eq_take_drop, List.drop_take]
theorem txt_get (l : List UInt8) (k : Nat) (h : k < (txt l).size) : (txt l)[k] = l[k]'(by rw [txt_size] at h; exact h) := rfl
end Go.Proofs.YtejikiebhjiocaaDoor
