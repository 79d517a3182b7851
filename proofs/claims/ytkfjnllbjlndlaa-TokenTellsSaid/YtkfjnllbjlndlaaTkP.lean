/- The plain part of the reading of a whole pattern. -/
import Derived.Test.YtkfjnllbjlndlaaRcG
namespace Go.Proofs.Ytkfjnllbjlndlaa
open Go.RowKit

theorem setM_ok (p : List UInt8) (o : Nat) (n : Bool) : ∀ (f k : Nat) (first : Bool) (c c' : Cl) (k' : Nat), setM p o n f k first c = .ok c' k' → k < k' ∧ k' ≤ p.length
  | 0, _, _, _, _, _, h => by cases h
  | f + 1, k, first, c, c', k', h => by
    rw [setM_step] at h
    by_cases hb : byteAt p k < 0
    · rw [if_pos hb] at h; cases h
    rw [if_neg hb] at h
    have hk := byteAt_pos p k (by omega)
    by_cases h93 : byteAt p k = 93
    · rw [if_pos h93] at h
      split at h
      · cases h
      · split at h
        · cases h
        · injection h with _ h; omega
    rw [if_neg h93] at h
    rcases hu : unitM p k with _ | ⟨lo, k1⟩
    · rw [hu] at h; cases h
    rw [hu] at h
    simp only at h
    have f1 := (unitM_facts p k lo k1 hk hu).1
    split at h
    · have := setM_ok p o n f k1 false _ c' k' h; omega
    · rename_i hc
      have hk1 : k1 + 1 < p.length := byteAt_pos p (k1 + 1) (by omega)
      rcases hv : unitM p (k1 + 1) with _ | ⟨hi, k2⟩
      · rw [hv] at h; cases h
      rw [hv] at h
      simp only at h
      have f2 := (unitM_facts p (k1 + 1) hi k2 hk1 hv).1
      split at h
      · cases h
      · have := setM_ok p o n f k2 false _ c' k' h; omega
theorem cntM_ok (p : List UInt8) (k : Nat) (t : Tok) (k' : Nat) (hk : k ≤ p.length) (h : cntM p k = some (t, k')) : k < k' ∧ k' ≤ p.length := by
  rw [cntM_ref p k hk] at h
  rcases hn : numM p k with _ | ⟨n, k1⟩
  · rw [hn] at h; cases h
  rw [hn] at h
  simp only at h
  obtain ⟨f1, f2, _⟩ := numM_facts p k k1 n hk hn
  have hm : k1 ≤ (cntMid p n k1).2 := by
    unfold cntMid
    split
    · rename_i h44
      have hk1 : k1 < p.length := byteAt_pos p k1 (by omega)
      rcases hm : numM p (k1 + 1) with _ | ⟨m, k2⟩
      · simp
      · have := numM_facts p (k1 + 1) k2 m (by omega) hm; simp only; omega
    · exact Nat.le_refl _
  split at h
  · cases h
  · rename_i hc
    injection h with h
    injection h with _ h
    have : byteAt p (cntMid p n k1).2 = 125 := by
      rcases Int.lt_trichotomy (byteAt p (cntMid p n k1).2) 125 with h1 | h1 | h1
      · exact absurd (.inl (by omega)) hc
      · exact h1
      · exact absurd (.inl (by omega)) hc
    have := byteAt_pos p (cntMid p n k1).2 (by omega)
    omega
theorem lazyM_ok (p : List UInt8) (a : Nat) (t t' : Tok) (k k' : Nat) (hk : k ≤ p.length) (h : lazyM p a t k = .ok t' k') : k ≤ k' ∧ k' ≤ p.length ∧ t'.at_ = a := by
  unfold lazyM at h
  split at h
  · rename_i hc
    have := byteAt_pos p k (by omega)
    injection h with h1 h2
    subst h1
    exact ⟨by omega, by omega, rfl⟩
  · injection h with h1 h2
    subst h1
    exact ⟨by omega, by omega, rfl⟩
theorem oneM_ok (p : List UInt8) (k : Nat) (t : Tok) (k' : Nat) (hk : k < p.length) (h : oneM p k = .ok t k') : k < k' ∧ k' ≤ p.length ∧ t.at_ = k := by
  rw [oneM_at p k _ rfl] at h
  have key : ∀ u : Tok, u.at_ = k → Rd.ok u (k + 1) = .ok t k' → k < k' ∧ k' ≤ p.length ∧ t.at_ = k := by
    intro u hu he
    injection he with h1 h2
    subst h1
    exact ⟨by omega, by omega, hu⟩
  have lz : ∀ (u : Tok) (j : Nat), k < j → j ≤ p.length → lazyM p k u j = .ok t k' → k < k' ∧ k' ≤ p.length ∧ t.at_ = k := by
    intro u j h1 h2 h3
    have := lazyM_ok p k u t j k' h2 h3
    exact ⟨by omega, this.2.1, this.2.2⟩
  by_cases c1 : byteAt p k = 92
  · rw [if_pos c1] at h
    rcases hE : escM p (k + 1) with _ | ⟨t2, k2⟩
    · rw [hE] at h; cases h
    · rw [hE] at h
      injection h with h1 h2
      subst h1
      have f1 := (escM_facts _ _ _ _ hE).1
      have f2 := escM_le _ _ _ _ hE
      exact ⟨by omega, by omega, rfl⟩
  rw [if_neg c1] at h
  by_cases c2 : byteAt p k = 91
  · rw [if_pos c2] at h
    simp only at h
    split at h
    · cases h
    · rename_i hS
      injection h with h1 h2
      subst h1
      have := setM_ok _ _ _ _ _ _ _ _ _ hS
      refine ⟨?_, by omega, rfl⟩
      have h3 := this.1
      split at h3 <;> omega
  rw [if_neg c2] at h
  by_cases c3 : byteAt p k = 46
  · rw [if_pos c3] at h; exact key _ rfl h
  rw [if_neg c3] at h
  by_cases c4 : byteAt p k = 40
  · rw [if_pos c4] at h
    split at h
    · split at h
      · rename_i h2
        have := byteAt_pos p (k + 2) (by omega)
        injection h with h1 h2
        subst h1
        exact ⟨by omega, by omega, rfl⟩
      · cases h
    · exact key _ rfl h
  rw [if_neg c4] at h
  by_cases c5 : byteAt p k = 41
  · rw [if_pos c5] at h; exact key _ rfl h
  rw [if_neg c5] at h
  by_cases c6 : byteAt p k = 124
  · rw [if_pos c6] at h; exact key _ rfl h
  rw [if_neg c6] at h
  by_cases c7 : byteAt p k = 94
  · rw [if_pos c7] at h; exact key _ rfl h
  rw [if_neg c7] at h
  by_cases c8 : byteAt p k = 36
  · rw [if_pos c8] at h; exact key _ rfl h
  rw [if_neg c8] at h
  by_cases c9 : byteAt p k = 43
  · rw [if_pos c9] at h; exact lz _ _ (by omega) (by omega) h
  rw [if_neg c9] at h
  by_cases c10 : byteAt p k = 42
  · rw [if_pos c10] at h; exact lz _ _ (by omega) (by omega) h
  rw [if_neg c10] at h
  by_cases c11 : byteAt p k = 63
  · rw [if_pos c11] at h; exact lz _ _ (by omega) (by omega) h
  rw [if_neg c11] at h
  by_cases c12 : byteAt p k = 123
  · rw [if_pos c12] at h
    rcases hE : cntM p (k + 1) with _ | ⟨t2, k2⟩
    · rw [hE] at h; cases h
    · rw [hE] at h
      have := cntM_ok p (k + 1) t2 k2 (by omega) hE
      exact lz _ _ (by omega) (by omega) h
  rw [if_neg c12] at h
  exact key _ rfl h

/-- The tokens and where each ends. -/
def readM (p : List UInt8) : Nat → Nat → List (Tok × Nat)
  | 0, _ => []
  | f + 1, k => if p.length ≤ k then [] else match oneM p k with
    | .bad _ _ => []
    | .ok t k1 => (t, k1) :: readM p f k1
theorem toksM_end (p : List UInt8) (f k : Nat) (hk : p.length ≤ k) : toksM p f k = ([], k, none) := by
  cases f with
  | zero => rfl
  | succ f => rw [toksM, if_pos hk]
theorem readM_end (p : List UInt8) (f k : Nat) (hk : p.length ≤ k) : readM p f k = [] := by
  cases f with
  | zero => rfl
  | succ f => rw [readM, if_pos hk]
theorem toksM_fuel (p : List UInt8) : ∀ (f g k : Nat), p.length ≤ f + k → p.length ≤ g + k → toksM p f k = toksM p g k
  | 0, g, k, h, _ => by rw [toksM_end p g k (by omega)]; rfl
  | f + 1, 0, k, _, h => by rw [toksM_end p (f + 1) k (by omega)]; rfl
  | f + 1, g + 1, k, h1, h2 => by
    rw [toksM, toksM]
    by_cases hk : p.length ≤ k
    · rw [if_pos hk, if_pos hk]
    · rw [if_neg hk, if_neg hk]
      rcases ho : oneM p k with ⟨t, k1⟩ | ⟨a, e⟩
      · have := oneM_ok p k t k1 (by omega) ho
        simp only
        rw [toksM_fuel p f g k1 (by omega) (by omega)]
      · rfl
theorem readM_fuel (p : List UInt8) : ∀ (f g k : Nat), p.length ≤ f + k → p.length ≤ g + k → readM p f k = readM p g k
  | 0, g, k, h, _ => by rw [readM_end p g k (by omega)]; rfl
  | f + 1, 0, k, _, h => by rw [readM_end p (f + 1) k (by omega)]; rfl
  | f + 1, g + 1, k, h1, h2 => by
    rw [readM, readM]
    by_cases hk : p.length ≤ k
    · rw [if_pos hk, if_pos hk]
    · rw [if_neg hk, if_neg hk]
      rcases ho : oneM p k with ⟨t, k1⟩ | ⟨a, e⟩
      · have := oneM_ok p k t k1 (by omega) ho
        simp only
        rw [readM_fuel p f g k1 (by omega) (by omega)]
      · rfl
/-- The whole reading. -/
def toksA (p : List UInt8) : List Tok × Nat × Option (Int × Int) := toksM p p.length 0
theorem toksM_ok (p : List UInt8) (k k1 : Nat) (t : Tok) (hk : k < p.length) (h : oneM p k = .ok t k1) : toksM p p.length k = (t :: (toksM p p.length k1).1, (toksM p p.length k1).2) := by
  obtain ⟨f, hf⟩ : ∃ f, p.length = f + 1 := ⟨p.length - 1, by omega⟩
  have h1 := oneM_ok p k t k1 hk h
  rw [toksM_fuel p p.length (f + 1) k (by omega) (by omega), toksM, if_neg (by omega), h]
  simp only
  rw [toksM_fuel p f p.length k1 (by omega) (by omega)]
theorem toksM_bad (p : List UInt8) (k : Nat) (a e : Int) (hk : k < p.length) (h : oneM p k = .bad a e) : toksM p p.length k = ([], k, some (a, e)) := by
  obtain ⟨f, hf⟩ : ∃ f, p.length = f + 1 := ⟨p.length - 1, by omega⟩
  rw [toksM_fuel p p.length (f + 1) k (by omega) (by omega), toksM, if_neg (by omega), h]
theorem readM_ok (p : List UInt8) (k k1 : Nat) (t : Tok) (hk : k < p.length) (h : oneM p k = .ok t k1) : readM p p.length k = (t, k1) :: readM p p.length k1 := by
  obtain ⟨f, hf⟩ : ∃ f, p.length = f + 1 := ⟨p.length - 1, by omega⟩
  have h1 := oneM_ok p k t k1 hk h
  rw [readM_fuel p p.length (f + 1) k (by omega) (by omega), readM, if_neg (by omega), h]
  simp only
  rw [readM_fuel p f p.length k1 (by omega) (by omega)]
theorem readM_bad (p : List UInt8) (k : Nat) (a e : Int) (hk : k < p.length) (h : oneM p k = .bad a e) : readM p p.length k = [] := by
  obtain ⟨f, hf⟩ : ∃ f, p.length = f + 1 := ⟨p.length - 1, by omega⟩
  rw [readM_fuel p p.length (f + 1) k (by omega) (by omega), readM, if_neg (by omega), h]
/-- The place where the told tokens end. -/
def lastP (k : Nat) (l : List (Tok × Nat)) : Nat := match l.getLast? with | some x => x.2 | none => k
theorem lastP_cons (k : Nat) (x : Tok × Nat) (l : List (Tok × Nat)) : lastP k (x :: l) = lastP x.2 l := by
  unfold lastP
  cases l with
  | nil => rfl
  | cons y l =>
    rw [List.getLast?_cons_cons]
    rcases h : (y :: l).getLast? with _ | z
    · simp at h
    · rfl
theorem lastP_snoc (k : Nat) (x : Tok × Nat) (l : List (Tok × Nat)) : lastP k (l ++ [x]) = x.2 := by unfold lastP; simp
theorem toksM_read (p : List UInt8) : ∀ (n k : Nat), p.length - k ≤ n → k ≤ p.length → (toksM p p.length k).1 = (readM p p.length k).map (·.1) ∧ (toksM p p.length k).2.1 = lastP k (readM p p.length k) ∧
      (match (toksM p p.length k).2.2 with | none => lastP k (readM p p.length k) = p.length | some (a, e) => lastP k (readM p p.length k) < p.length ∧ oneM p (lastP k (readM p p.length k)) = .bad a e)
  | 0, k, hn, hk => by rw [toksM_end p _ k (by omega), readM_end p _ k (by omega)]; exact ⟨rfl, rfl, by simp [lastP]; omega⟩
  | n + 1, k, hn, hk => by
    by_cases hl : p.length ≤ k
    · rw [toksM_end p _ k hl, readM_end p _ k hl]; exact ⟨rfl, rfl, by simp [lastP]; omega⟩
    · rcases ho : oneM p k with ⟨t, k1⟩ | ⟨a, e⟩
      · have h1 := oneM_ok p k t k1 (by omega) ho
        have h2 := toksM_read p n k1 (by omega) h1.2.1
        rw [toksM_ok p k k1 t (by omega) ho, readM_ok p k k1 t (by omega) ho, lastP_cons]
        exact ⟨by simp [h2.1], h2.2.1, h2.2.2⟩
      · rw [toksM_bad p k a e (by omega) ho, readM_bad p k a e (by omega) ho]
        exact ⟨rfl, rfl, by simp [lastP, ho]; omega⟩
theorem readM_length (p : List UInt8) : ∀ (n k : Nat), p.length - k ≤ n → k ≤ p.length → (readM p p.length k).length ≤ p.length - k
  | 0, k, hn, hk => by rw [readM_end p _ k (by omega)]; simp
  | n + 1, k, hn, hk => by
    by_cases hl : p.length ≤ k
    · rw [readM_end p _ k hl]; simp
    · rcases ho : oneM p k with ⟨t, k1⟩ | ⟨a, e⟩
      · have h1 := oneM_ok p k t k1 (by omega) ho
        have h2 := readM_length p n k1 (by omega) h1.2.1
        rw [readM_ok p k k1 t (by omega) ho]
        simp only [List.length_cons]
        omega
      · rw [readM_bad p k a e (by omega) ho]; simp
end Go.Proofs.Ytkfjnllbjlndlaa
