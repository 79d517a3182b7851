/- The lines of a text, in plain Lean. -/
import Derived.Lib.IndexLaws
import Derived.Lib.Bytealg
namespace Go.Proofs.YtkfjnllbjlndlaaDoor

def headL : List UInt8 → List UInt8
  | [] => []
  | c :: cs => if c = 10 then [] else c :: headL cs
def tailL : List UInt8 → List UInt8
  | [] => []
  | c :: cs => if c = 10 then cs else tailL cs
def linesF : Nat → List UInt8 → List (List UInt8)
  | 0, _ => []
  | _ + 1, [] => []
  | n + 1, c :: cs => headL (c :: cs) :: linesF n (tailL (c :: cs))
def linesM (bs : List UInt8) : List (List UInt8) := linesF bs.length bs
def numF : Nat → List (List UInt8) → List (Nat × List UInt8)
  | _, [] => []
  | k, l :: ls => (k, l) :: numF (k + 1) ls

theorem numF_length (ls : List (List UInt8)) : ∀ k, (numF k ls).length = ls.length := by
  induction ls with
  | nil => intro k; rfl
  | cons l ls ih => intro k; simp [numF, ih]
theorem numF_append (a b : List (List UInt8)) : ∀ k, numF k (a ++ b) = numF k a ++ numF (k + a.length) b := by
  induction a with
  | nil => intro k; simp [numF]
  | cons l a ih => intro k; simp only [List.cons_append, numF, List.length_cons]; rw [ih (k + 1), show k + 1 + a.length = k + (a.length + 1) by omega]
theorem tailL_le (bs : List UInt8) : (tailL bs).length ≤ bs.length - 1 := by
  induction bs with
  | nil => simp [tailL]
  | cons c cs ih =>
    unfold tailL
    split
    · simp
    · simp only [List.length_cons]; omega
theorem headL_le (bs : List UInt8) : (headL bs).length ≤ bs.length := by
  induction bs with
  | nil => simp [headL]
  | cons c cs ih =>
    unfold headL
    split
    · simp
    · simp only [List.length_cons]; omega
theorem linesF_more : ∀ (n m : Nat) (bs : List UInt8), bs.length ≤ n → bs.length ≤ m → linesF n bs = linesF m bs := by
  intro n
  induction n with
  | zero =>
    intro m bs h _
    obtain rfl : bs = [] := List.eq_nil_of_length_eq_zero (by omega)
    cases m <;> rfl
  | succ n ih =>
    intro m bs h h2
    cases bs with
    | nil => cases m <;> rfl
    | cons c cs =>
      cases m with
      | zero => simp at h2
      | succ m =>
        have ht := tailL_le (c :: cs)
        simp only [List.length_cons] at h h2 ht
        simp only [linesF]
        rw [ih m (tailL (c :: cs)) (by omega) (by omega)]
theorem linesM_nil : linesM [] = [] := rfl
theorem linesM_cons {bs : List UInt8} (h : 0 < bs.length) : linesM bs = headL bs :: linesM (tailL bs) := by
  cases bs with
  | nil => simp at h
  | cons c cs =>
    have ht := tailL_le (c :: cs)
    simp only [List.length_cons] at ht
    show linesF (cs.length + 1) (c :: cs) = _
    simp only [linesF]
    unfold linesM
    rw [linesF_more cs.length (tailL (c :: cs)).length _ (by omega) (Nat.le_refl _)]
theorem linesF_length (n : Nat) : ∀ (bs : List UInt8), (linesF n bs).length ≤ bs.length := by
  induction n with
  | zero => intro bs; simp [linesF]
  | succ n ih =>
    intro bs
    cases bs with
    | nil => simp [linesF]
    | cons c cs =>
      have ht := tailL_le (c :: cs)
      have := ih (tailL (c :: cs))
      simp only [linesF, List.length_cons] at ht ⊢
      omega
theorem linesM_length (bs : List UInt8) : (linesM bs).length ≤ bs.length := linesF_length _ _
theorem split_app (xs ys : List UInt8) (h : ∀ x ∈ xs, x ≠ 10) : headL (xs ++ 10 :: ys) = xs ∧ tailL (xs ++ 10 :: ys) = ys := by
  induction xs with
  | nil => simp [headL, tailL]
  | cons c cs ih =>
    have hc := h c (by simp)
    obtain ⟨h1, h2⟩ := ih (fun x hx => h x (by simp [hx]))
    simp only [List.cons_append, headL, tailL, if_neg hc]
    exact ⟨by rw [h1], h2⟩
theorem split_end (xs : List UInt8) (h : ∀ x ∈ xs, x ≠ 10) : headL xs = xs ∧ tailL xs = [] := by
  induction xs with
  | nil => simp [headL, tailL]
  | cons c cs ih =>
    have hc := h c (by simp)
    obtain ⟨h1, h2⟩ := ih (fun x hx => h x (by simp [hx]))
    simp only [headL, tailL, if_neg hc]
    exact ⟨by rw [h1], h2⟩
theorem drop_split (bs : List UInt8) (from_ i : Nat) (h1 : from_ ≤ i) (h : bs[i]? = some 10) : bs.drop from_ = (bs.take i).drop from_ ++ 10 :: bs.drop (i + 1) := by
  have hi : i < bs.length := (List.getElem?_eq_some_iff.1 h).1
  have h3 : bs = bs.take i ++ 10 :: bs.drop (i + 1) := by
    have := List.getElem?_eq_some_iff.1 h
    obtain ⟨_, h4⟩ := this
    rw [← h4, ← List.drop_eq_getElem_cons hi, List.take_append_drop]
  conv => lhs; rw [h3]
  rw [List.drop_append_of_le_length (by rw [List.length_take]; omega)]
theorem mem_between {bs : List UInt8} {from_ i : Nat} (hno : ∀ k, from_ ≤ k → k < i → bs[k]? ≠ some 10) : ∀ x ∈ (bs.take i).drop from_, x ≠ 10 := by
  intro x hx e
  subst e
  obtain ⟨k, hk, hke⟩ := List.mem_iff_getElem.1 hx
  rw [List.length_drop, List.length_take] at hk
  refine hno (from_ + k) (by omega) (by omega) ?_
  rw [List.getElem_drop, List.getElem_take] at hke
  rw [List.getElem?_eq_getElem (by omega), hke]
theorem line_at (bs : List UInt8) (from_ i : Nat) (h1 : from_ ≤ i) (hno : ∀ k, from_ ≤ k → k < i → bs[k]? ≠ some 10) (h : bs[i]? = some 10) :
    linesM (bs.drop from_) = (bs.take i).drop from_ :: linesM (bs.drop (i + 1)) := by
  have hi : i < bs.length := (List.getElem?_eq_some_iff.1 h).1
  rw [linesM_cons (by rw [List.length_drop]; omega)]
  obtain ⟨h2, h3⟩ := split_app ((bs.take i).drop from_) (bs.drop (i + 1)) (mem_between hno)
  rw [← drop_split bs from_ i h1 h] at h2 h3
  rw [h2, h3]
theorem line_end (bs : List UInt8) (from_ : Nat) (h1 : from_ < bs.length) (hno : ∀ k, from_ ≤ k → k < bs.length → bs[k]? ≠ some 10) : linesM (bs.drop from_) = [bs.drop from_] := by
  have hm := mem_between (from_ := from_) (i := bs.length) hno
  rw [List.take_length] at hm
  obtain ⟨h2, h3⟩ := split_end _ hm
  rw [linesM_cons (by rw [List.length_drop]; omega), h2, h3]
  rfl
theorem split_index (bs : List UInt8) : (∃ i : Nat, Lib.indexByte bs 10 = (i : Int) ∧ i < bs.length ∧ headL bs = bs.take i ∧ tailL bs = bs.drop (i + 1)) ∨ (Lib.indexByte bs 10 = -1 ∧ headL bs = bs ∧ tailL bs = []) := by
  have h := Lib.indexByte_ge bs 10
  rcases Int.lt_or_le (Lib.indexByte bs 10) 0 with h0 | h0
  · right
    have e : Lib.indexByte bs 10 = -1 := by omega
    have := split_end bs (fun x hx e2 => by
      subst e2
      obtain ⟨k, hk, hke⟩ := List.mem_iff_getElem.1 hx
      exact Lib.indexByte_none e k (by rw [List.getElem?_eq_getElem hk, hke]))
    exact ⟨e, this⟩
  · left
    obtain ⟨i, hi⟩ := Int.eq_ofNat_of_zero_le h0
    obtain ⟨h1, h2⟩ := Lib.indexByte_some hi
    have hlt := (List.getElem?_eq_some_iff.1 h1).1
    have h3 := drop_split bs 0 i (Nat.zero_le _) h1
    rw [List.drop_zero, List.drop_zero] at h3
    obtain ⟨h4, h5⟩ := split_app (bs.take i) (bs.drop (i + 1)) (by
      have := mem_between (bs := bs) (from_ := 0) (i := i) (fun k _ hk => h2 k hk)
      rwa [List.drop_zero] at this)
    rw [← h3] at h4 h5
    exact ⟨i, hi, hlt, h4, h5⟩
end Go.Proofs.YtkfjnllbjlndlaaDoor
