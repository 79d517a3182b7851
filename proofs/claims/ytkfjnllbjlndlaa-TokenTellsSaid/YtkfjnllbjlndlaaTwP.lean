/- A token's piece is read alone as that token: the plain part. -/
import Derived.Test.YtkfjnllbjlndlaaRcI
namespace Go.Proofs.Ytkfjnllbjlndlaa
open Go.RowKit

/-- The bytes from o up to e. -/
def sub (p : List UInt8) (o e : Nat) : List UInt8 := (p.take e).drop o
theorem sub_length (p : List UInt8) (o e : Nat) (he : e ≤ p.length) : (sub p o e).length = e - o := by simp [sub]; omega
theorem sub_in (p : List UInt8) (o e i : Nat) (h : o + i < e) : byteAt (sub p o e) i = byteAt p (o + i) := by
  unfold byteAt sub
  rw [List.getElem?_drop, List.getElem?_take, if_pos h]
theorem sub_out (p : List UInt8) (o e i : Nat) (h : e ≤ o + i) : byteAt (sub p o e) i = -1 := by
  unfold byteAt sub
  rw [List.getElem?_drop, List.getElem?_take, if_neg (by omega)]

theorem numL_ge' (p : List UInt8) : ∀ (f k : Nat) (n : Int), k ≤ (numL p f k n).2
  | 0, k, n => Nat.le_refl _
  | f + 1, k, n => by
    rw [numL]
    by_cases hd : digM (byteAt p k) = true
    · rw [if_pos hd]; have := numL_ge' p f (k + 1) (min (10 * n + (byteAt p k - 48)) 1001); omega
    · rw [if_neg hd]; exact Nat.le_refl _

section
variable {p : List UInt8} {o e : Nat}
theorem hexM_loc (i : Nat) (t : Tok) (j : Nat) (h : hexM p (o + i) = some (t, j)) (hj : j ≤ e) : hexM (sub p o e) i = some (t, j - o) := by
  have h1 := (hexM_facts p (o + i) t j h).1
  unfold hexM at h ⊢
  rw [sub_in p o e i (by omega), sub_in p o e (i + 1) (by omega), show o + (i + 1) = o + i + 1 from by omega]
  rcases ha : nibM (byteAt p (o + i)) with _ | a
  · rw [ha] at h; cases h
  · rcases hb : nibM (byteAt p (o + i + 1)) with _ | b
    · rw [ha, hb] at h; cases h
    · rw [ha, hb] at h
      injection h with h
      injection h with h2 h3
      subst h2
      simp only [Option.some.injEq, Prod.mk.injEq, true_and]
      omega
theorem escM_loc (i : Nat) (t : Tok) (j : Nat) (h : escM p (o + i) = some (t, j)) (hj : j ≤ e) : escM (sub p o e) i = some (t, j - o) := by
  have h1 := (escM_facts p (o + i) t j h).1
  rw [escM_at p (o + i) _ rfl] at h
  rw [escM_at (sub p o e) i (byteAt p (o + i)) (sub_in p o e i (by omega))]
  have key : ∀ u : Tok, some (u, o + i + 1) = some (t, j) → some (u, i + 1) = some (t, j - o) := by
    intro u he
    injection he with he
    injection he with h2 h3
    subst h2
    simp only [Option.some.injEq, Prod.mk.injEq, true_and]
    omega
  generalize byteAt p (o + i) = x at *
  by_cases c0 : x < 0
  · rw [if_pos c0] at h; cases h
  rw [if_neg c0] at h ⊢
  by_cases c1 : x = 100
  · rw [if_pos c1] at h ⊢; exact key _ h
  rw [if_neg c1] at h ⊢
  by_cases c2 : x = 119
  · rw [if_pos c2] at h ⊢; exact key _ h
  rw [if_neg c2] at h ⊢
  by_cases c3 : x = 115
  · rw [if_pos c3] at h ⊢; exact key _ h
  rw [if_neg c3] at h ⊢
  by_cases c4 : x = 68
  · rw [if_pos c4] at h ⊢; exact key _ h
  rw [if_neg c4] at h ⊢
  by_cases c5 : x = 87
  · rw [if_pos c5] at h ⊢; exact key _ h
  rw [if_neg c5] at h ⊢
  by_cases c6 : x = 83
  · rw [if_pos c6] at h ⊢; exact key _ h
  rw [if_neg c6] at h ⊢
  by_cases c7 : x = 110
  · rw [if_pos c7] at h ⊢; exact key _ h
  rw [if_neg c7] at h ⊢
  by_cases c8 : x = 114
  · rw [if_pos c8] at h ⊢; exact key _ h
  rw [if_neg c8] at h ⊢
  by_cases c9 : x = 116
  · rw [if_pos c9] at h ⊢; exact key _ h
  rw [if_neg c9] at h ⊢
  by_cases c10 : x = 120
  · rw [if_pos c10] at h ⊢
    exact hexM_loc (i + 1) t j (by rw [show o + (i + 1) = o + i + 1 from by omega]; exact h) hj
  rw [if_neg c10] at h ⊢
  by_cases c11 : (letM x || digM x) = true
  · rw [if_pos c11] at h; cases h
  rw [if_neg c11] at h ⊢
  exact key _ h
theorem unitM_loc (_ : e ≤ p.length) (i : Nat) (t : Tok) (j : Nat) (h : unitM p (o + i) = some (t, j)) (hj : j ≤ e) (hi : o + i < e) : unitM (sub p o e) i = some (t, j - o) := by
  unfold unitM at h ⊢
  rw [sub_in p o e i hi]
  by_cases hx : byteAt p (o + i) = 92
  · rw [if_pos hx] at h ⊢
    exact escM_loc (i + 1) t j (by rw [show o + (i + 1) = o + i + 1 from by omega]; exact h) hj
  · rw [if_neg hx] at h ⊢
    injection h with h
    injection h with h2 h3
    subst h2
    simp only [Option.some.injEq, Prod.mk.injEq, true_and]
    omega
theorem setM_loc (he : e ≤ p.length) (op op' : Nat) (n : Bool) : ∀ (f i : Nat) (first : Bool) (c c' : Cl) (k' : Nat), setM p op n f (o + i) first c = .ok c' k' → k' ≤ e → setM (sub p o e) op' n f i first c = .ok c' (k' - o)
  | 0, _, _, _, _, _, h, _ => by cases h
  | f + 1, i, first, c, c', k', h, hk => by
    have h0 := setM_ok p op n (f + 1) (o + i) first c c' k' h
    rw [setM_step] at h ⊢
    rw [sub_in p o e i (by omega)]
    by_cases hb : byteAt p (o + i) < 0
    · rw [if_pos hb] at h; cases h
    rw [if_neg hb] at h ⊢
    by_cases h93 : byteAt p (o + i) = 93
    · rw [if_pos h93] at h ⊢
      by_cases hf : first = true
      · rw [if_pos hf] at h; cases h
      rw [if_neg hf] at h ⊢
      by_cases hc : n = true ∧ c = Cl.full
      · rw [if_pos hc] at h; cases h
      rw [if_neg hc] at h ⊢
      injection h with h1 h2
      subst h1
      rw [show k' - o = i + 1 from by omega]
    rw [if_neg h93] at h ⊢
    rcases hu : unitM p (o + i) with _ | ⟨lo, k1⟩
    · rw [hu] at h; cases h
    rw [hu] at h
    simp only at h
    have f1 := (unitM_facts p (o + i) lo k1 (by omega) hu).1
    by_cases hcond : byteAt p (k1 + 1) < 0 ∨ byteAt p k1 ≠ 45 ∨ byteAt p (k1 + 1) = 93
    · rw [if_pos hcond] at h
      have g1 := setM_ok p op n f k1 false _ c' k' h
      rw [unitM_loc he i lo k1 hu (by omega) (by omega)]
      simp only
      have hcond' : byteAt (sub p o e) (k1 - o + 1) < 0 ∨ byteAt (sub p o e) (k1 - o) ≠ 45 ∨ byteAt (sub p o e) (k1 - o + 1) = 93 := by
        rw [sub_in p o e (k1 - o) (by omega), show o + (k1 - o) = k1 from by omega]
        by_cases h45 : byteAt p k1 = 45
        · rcases Nat.lt_or_ge (k1 + 1) e with h2 | h2
          · rw [sub_in p o e (k1 - o + 1) (by omega), show o + (k1 - o + 1) = k1 + 1 from by omega]; exact hcond
          · rw [sub_out p o e (k1 - o + 1) (by omega)]; exact .inl (by decide)
        · exact .inr (.inl h45)
      rw [if_pos hcond']
      exact setM_loc he op op' n f (k1 - o) false _ c' k' (by rw [show o + (k1 - o) = k1 from by omega]; exact h) hk
    · rw [if_neg hcond] at h
      rcases hv : unitM p (k1 + 1) with _ | ⟨hi, k2⟩
      · rw [hv] at h; cases h
      rw [hv] at h
      simp only at h
      have hk1 : k1 + 1 < p.length := byteAt_pos p (k1 + 1) (by omega)
      have f2 := (unitM_facts p (k1 + 1) hi k2 hk1 hv).1
      by_cases hbad : lo.kind ≠ 1 ∨ hi.kind ≠ 1 ∨ lo.byte > hi.byte
      · rw [if_pos hbad] at h; cases h
      rw [if_neg hbad] at h
      have g1 := setM_ok p op n f k2 false _ c' k' h
      rw [unitM_loc he i lo k1 hu (by omega) (by omega)]
      simp only
      have hcond' : ¬ (byteAt (sub p o e) (k1 - o + 1) < 0 ∨ byteAt (sub p o e) (k1 - o) ≠ 45 ∨ byteAt (sub p o e) (k1 - o + 1) = 93) := by
        rw [sub_in p o e (k1 - o) (by omega), show o + (k1 - o) = k1 from by omega, sub_in p o e (k1 - o + 1) (by omega), show o + (k1 - o + 1) = k1 + 1 from by omega]
        exact hcond
      rw [if_neg hcond', unitM_loc he (k1 - o + 1) hi k2 (by rw [show o + (k1 - o + 1) = k1 + 1 from by omega]; exact hv) (by omega) (by omega)]
      simp only
      rw [if_neg hbad]
      exact setM_loc he op op' n f (k2 - o) false _ c' k' (by rw [show o + (k2 - o) = k2 from by omega]; exact h) hk
theorem numL_loc (he : e ≤ p.length) : ∀ (f g i : Nat) (n m : Int) (j : Nat), numL p f (o + i) n = (m, j) → j < e → p.length ≤ f + (o + i) → e ≤ g + (o + i) → digM (byteAt p j) = false → numL (sub p o e) g i n = (m, j - o)
  | 0, g, i, n, m, j, h, h1, h2, _, _ => by
    simp only [numL, Prod.mk.injEq] at h
    omega
  | f + 1, 0, i, n, m, j, h, h1, _, h3, _ => by
    have h4 := numL_ge' p (f + 1) (o + i) n
    rw [h] at h4
    simp only at h4
    omega
  | f + 1, g + 1, i, n, m, j, h, h1, h2, h3, h4 => by
    have h5 := numL_ge' p (f + 1) (o + i) n
    rw [h] at h5
    simp only at h5
    rw [numL] at h ⊢
    rw [sub_in p o e i (by omega)]
    by_cases hd : digM (byteAt p (o + i)) = true
    · rw [if_pos hd] at h ⊢
      exact numL_loc he f g (i + 1) _ m j (by rw [show o + (i + 1) = o + i + 1 from by omega]; exact h) h1 (by omega) (by omega) h4
    · rw [if_neg hd] at h ⊢
      simp only [Prod.mk.injEq] at h ⊢
      omega
theorem numM_loc (he : e ≤ p.length) (i : Nat) (n : Int) (j : Nat) (h : numM p (o + i) = some (n, j)) (hj : j < e) (hi : o + i ≤ e) (hd : digM (byteAt p j) = false) : numM (sub p o e) i = some (n, j - o) := by
  have h1 := numM_facts p (o + i) j n (by omega) h
  unfold numM at h ⊢
  simp only at h ⊢
  have hl := numL_loc he (p.length - (o + i)) ((sub p o e).length - i) i 0 (numL p (p.length - (o + i)) (o + i) 0).1 (numL p (p.length - (o + i)) (o + i) 0).2 rfl
  by_cases hc : (numL p (p.length - (o + i)) (o + i) 0).2 = o + i ∨ byteAt p (o + i) = 48 ∧ o + i + 1 < (numL p (p.length - (o + i)) (o + i) 0).2 ∨ 1000 < (numL p (p.length - (o + i)) (o + i) 0).1
  · rw [if_pos hc] at h; cases h
  rw [if_neg hc] at h
  injection h with h
  rw [h] at hl hc
  simp only at hl hc
  have hl' := hl hj (by omega) (by rw [sub_length p o e he]; omega) hd
  rw [hl', sub_in p o e i (by omega)]
  simp only
  rw [if_neg (by omega)]
theorem cntM_loc (he : e ≤ p.length) (i : Nat) (t : Tok) (j : Nat) (h : cntM p (o + i) = some (t, j)) (hj : j ≤ e) (hi : o + i ≤ e) : cntM (sub p o e) i = some (t, j - o) := by
  unfold cntM at h ⊢
  rcases hn : numM p (o + i) with _ | ⟨n, k1⟩
  · rw [hn] at h; cases h
  rw [hn] at h
  simp only at h
  have f1 := numM_facts p (o + i) k1 n (by omega) hn
  by_cases h44 : byteAt p k1 = 44
  · rw [if_pos h44] at h
    have d1 : digM (byteAt p k1) = false := by rw [h44]; decide
    by_cases h125 : byteAt p (k1 + 1) = 125
    · rw [if_pos h125] at h
      injection h with h
      injection h with h2 h3
      subst h2
      rw [numM_loc he i n k1 hn (by omega) hi d1]
      simp only
      rw [sub_in p o e (k1 - o) (by omega), show o + (k1 - o) = k1 from by omega, if_pos h44, sub_in p o e (k1 - o + 1) (by omega), show o + (k1 - o + 1) = k1 + 1 from by omega, if_pos h125]
      simp only [Option.some.injEq, Prod.mk.injEq, true_and]
      omega
    · rw [if_neg h125] at h
      have hk1 : k1 < p.length := byteAt_pos p k1 (by omega)
      rcases hm : numM p (k1 + 1) with _ | ⟨m, k2⟩
      · rw [hm] at h; cases h
      rw [hm] at h
      simp only at h
      have f2 := numM_facts p (k1 + 1) k2 m (by omega) hm
      by_cases hc : m < n ∨ byteAt p k2 ≠ 125
      · rw [if_pos hc] at h; cases h
      rw [if_neg hc] at h
      injection h with h
      injection h with h2 h3
      subst h2
      have h2 : byteAt p k2 = 125 := by
        rcases Int.lt_trichotomy (byteAt p k2) 125 with q | q | q
        · exact absurd (.inr (by omega)) hc
        · exact q
        · exact absurd (.inr (by omega)) hc
      have d2 : digM (byteAt p k2) = false := by rw [h2]; decide
      rw [numM_loc he i n k1 hn (by omega) hi d1]
      simp only
      rw [sub_in p o e (k1 - o) (by omega), show o + (k1 - o) = k1 from by omega, if_pos h44, sub_in p o e (k1 - o + 1) (by omega), show o + (k1 - o + 1) = k1 + 1 from by omega, if_neg h125,
        numM_loc he (k1 - o + 1) m k2 (by rw [show o + (k1 - o + 1) = k1 + 1 from by omega]; exact hm) (by omega) (by omega) d2]
      simp only
      rw [sub_in p o e (k2 - o) (by omega), show o + (k2 - o) = k2 from by omega, if_neg hc]
      simp only [Option.some.injEq, Prod.mk.injEq, true_and]
      omega
  · rw [if_neg h44] at h
    by_cases h125 : byteAt p k1 = 125
    · rw [if_pos h125] at h
      injection h with h
      injection h with h2 h3
      subst h2
      have d1 : digM (byteAt p k1) = false := by rw [h125]; decide
      rw [numM_loc he i n k1 hn (by omega) hi d1]
      simp only
      rw [sub_in p o e (k1 - o) (by omega), show o + (k1 - o) = k1 from by omega, if_neg h44, if_pos h125]
      simp only [Option.some.injEq, Prod.mk.injEq, true_and]
      omega
    · rw [if_neg h125] at h; cases h
theorem lazyM_loc (a b : Nat) (t t' : Tok) (i k' : Nat) (h : lazyM p a t (o + i) = .ok t' k') (_ : k' ≤ e) (_ : o + i ≤ e) (hq : k' = e) : lazyM (sub p o e) b t i = .ok { t' with at_ := (b : Int) } (k' - o) := by
  unfold lazyM at h ⊢
  by_cases hx : byteAt p (o + i) = 63
  · rw [if_pos hx] at h
    injection h with h1 h2
    subst h1
    rw [sub_in p o e i (by omega), if_pos hx, show k' - o = i + 1 from by omega]
  · rw [if_neg hx] at h
    injection h with h1 h2
    subst h1
    have hx' : ¬ byteAt (sub p o e) i = 63 := by rw [sub_out p o e i (by omega)]; decide
    rw [if_neg hx', show k' - o = i from by omega]
end

theorem setM_fuel (p : List UInt8) (o : Nat) (n : Bool) : ∀ (f g k : Nat) (first : Bool) (c c' : Cl) (k' : Nat), setM p o n f k first c = .ok c' k' → p.length < g + k → setM p o n g k first c = .ok c' k'
  | 0, _, _, _, _, _, _, h, _ => by cases h
  | f + 1, 0, k, first, c, c', k', h, hg => by
    have := setM_ok p o n (f + 1) k first c c' k' h
    omega
  | f + 1, g + 1, k, first, c, c', k', h, hg => by
    have h0 := setM_ok p o n (f + 1) k first c c' k' h
    rw [setM_step] at h ⊢
    by_cases hb : byteAt p k < 0
    · rw [if_pos hb] at h; cases h
    rw [if_neg hb] at h ⊢
    by_cases h93 : byteAt p k = 93
    · rw [if_pos h93] at h ⊢; exact h
    rw [if_neg h93] at h ⊢
    rcases hu : unitM p k with _ | ⟨lo, k1⟩
    · rw [hu] at h; cases h
    rw [hu] at h
    simp only at h ⊢
    have f1 := (unitM_facts p k lo k1 (by omega) hu).1
    by_cases hcond : byteAt p (k1 + 1) < 0 ∨ byteAt p k1 ≠ 45 ∨ byteAt p (k1 + 1) = 93
    · rw [if_pos hcond] at h ⊢
      exact setM_fuel p o n f g k1 false _ c' k' h (by omega)
    · rw [if_neg hcond] at h ⊢
      rcases hv : unitM p (k1 + 1) with _ | ⟨hi, k2⟩
      · rw [hv] at h; cases h
      rw [hv] at h
      simp only at h ⊢
      have hk1 : k1 + 1 < p.length := byteAt_pos p (k1 + 1) (by omega)
      have f2 := (unitM_facts p (k1 + 1) hi k2 hk1 hv).1
      by_cases hbad : lo.kind ≠ 1 ∨ hi.kind ≠ 1 ∨ lo.byte > hi.byte
      · rw [if_pos hbad] at h; cases h
      rw [if_neg hbad] at h ⊢
      exact setM_fuel p o n f g k2 false _ c' k' h (by omega)

theorem oneM_loc (p : List UInt8) (k k' : Nat) (t : Tok) (hk : k < p.length) (h : oneM p k = .ok t k') : oneM (sub p k k') 0 = .ok { t with at_ := 0 } (k' - k) := by
  have h0 := oneM_ok p k t k' hk h
  have he := h0.2.1
  rw [oneM_at p k _ rfl] at h
  rw [oneM_at (sub p k k') 0 (byteAt p k) (sub_in p k k' 0 (by omega))]
  have s1 : ∀ i, k + i < k' → byteAt (sub p k k') i = byteAt p (k + i) := fun i hi => sub_in p k k' i hi
  have s2 : ∀ i, k' ≤ k + i → byteAt (sub p k k') i = -1 := fun i hi => sub_out p k k' i hi
  have key : ∀ u : Tok, Rd.ok { u with at_ := (k : Int) } (k + 1) = .ok t k' → Rd.ok { u with at_ := ((0 : Nat) : Int) } (0 + 1) = .ok { t with at_ := 0 } (k' - k) := by
    intro u hu
    injection hu with h1 h2
    subst h1
    rw [show k' - k = 0 + 1 from by omega]
    rfl
  have lzk : ∀ u : Tok, lazyM p k u (k + 1) = .ok t k' → lazyM (sub p k k') 0 u (0 + 1) = .ok { t with at_ := 0 } (k' - k) := by
    intro u hu
    exact lazyM_loc k 0 u t 1 k' hu (Nat.le_refl _) (by have := (lazyM_ok p k u t (k + 1) k' (by omega) hu).1; omega) rfl
  generalize byteAt p k = x at *
  by_cases c92 : x = 92
  · rw [if_pos c92] at h ⊢
    rcases hE : escM p (k + 1) with _ | ⟨t2, k2⟩
    · rw [hE] at h; cases h
    · rw [hE] at h
      injection h with h1 h2
      subst h1 h2
      rw [escM_loc 1 t2 k2 hE (Nat.le_refl _)]
      rfl
  rw [if_neg c92] at h ⊢
  by_cases c91 : x = 91
  · rw [if_pos c91] at h ⊢
    simp only at h ⊢
    split at h
    · cases h
    · rename_i c k1 hS
      injection h with h1 h2
      subst h1 h2
      have hok := setM_ok _ _ _ _ _ _ _ _ _ hS
      have h3 := hok.1
      have hlt : k + 1 < k1 := by split at h3 <;> omega
      rw [show byteAt (sub p k k1) (0 + 1) = byteAt p (k + 1) from s1 1 (by omega)]
      have hS2 : setM (sub p k k1) 0 (decide (byteAt p (k + 1) = 94)) (p.length + 1) (if decide (byteAt p (k + 1) = 94) then 0 + 2 else 0 + 1) true Cl.zero = .ok c (k1 - k) := by
        refine setM_loc he k 0 _ (p.length + 1) _ true Cl.zero c k1 ?_ (Nat.le_refl _)
        rw [← hS]
        congr 1
        split <;> omega
      have hS3 := setM_fuel (sub p k k1) 0 (decide (byteAt p (k + 1) = 94)) (p.length + 1) ((sub p k k1).length + 1) (if decide (byteAt p (k + 1) = 94) then 0 + 2 else 0 + 1) true Cl.zero c (k1 - k) hS2 (by omega)
      rw [hS3]
      rfl
  rw [if_neg c91] at h ⊢
  by_cases c46 : x = 46
  · rw [if_pos c46] at h ⊢; exact key { Tok.zero with kind := 3 } h
  rw [if_neg c46] at h ⊢
  by_cases c40 : x = 40
  · rw [if_pos c40] at h ⊢
    by_cases h1 : byteAt p (k + 1) = 63
    · rw [if_pos h1] at h
      by_cases h2 : byteAt p (k + 2) = 58
      · rw [if_pos h2] at h
        injection h with h3 h4
        subst h3 h4
        rw [show byteAt (sub p k (k + 3)) (0 + 1) = byteAt p (k + 1) from s1 1 (by omega), if_pos h1, show byteAt (sub p k (k + 3)) (0 + 2) = byteAt p (k + 2) from s1 2 (by omega), if_pos h2, show k + 3 - k = 0 + 3 from by omega]
        rfl
      · rw [if_neg h2] at h; cases h
    · rw [if_neg h1] at h
      have hk1 : k' = k + 1 := by injection h with _ h; omega
      rw [if_neg (by rw [show byteAt (sub p k k') (0 + 1) = -1 from s2 1 (by omega)]; decide)]
      exact key { Tok.zero with kind := 4 } h
  rw [if_neg c40] at h ⊢
  by_cases c41 : x = 41
  · rw [if_pos c41] at h ⊢; exact key { Tok.zero with kind := 5 } h
  rw [if_neg c41] at h ⊢
  by_cases c124 : x = 124
  · rw [if_pos c124] at h ⊢; exact key { Tok.zero with kind := 6 } h
  rw [if_neg c124] at h ⊢
  by_cases c94 : x = 94
  · rw [if_pos c94] at h ⊢; exact key { Tok.zero with kind := 8 } h
  rw [if_neg c94] at h ⊢
  by_cases c36 : x = 36
  · rw [if_pos c36] at h ⊢; exact key { Tok.zero with kind := 9 } h
  rw [if_neg c36] at h ⊢
  by_cases c43 : x = 43
  · rw [if_pos c43] at h ⊢; exact lzk _ h
  rw [if_neg c43] at h ⊢
  by_cases c42 : x = 42
  · rw [if_pos c42] at h ⊢; exact lzk _ h
  rw [if_neg c42] at h ⊢
  by_cases c63 : x = 63
  · rw [if_pos c63] at h ⊢; exact lzk _ h
  rw [if_neg c63] at h ⊢
  by_cases c123 : x = 123
  · rw [if_pos c123] at h ⊢
    rcases hE : cntM p (k + 1) with _ | ⟨t2, k2⟩
    · rw [hE] at h; cases h
    · rw [hE] at h
      simp only at h
      have f1 := cntM_ok p (k + 1) t2 k2 (by omega) hE
      have f2 := lazyM_ok p k t2 t k2 k' f1.2 h
      rw [show (0 : Nat) + 1 = 1 from rfl, cntM_loc he 1 t2 k2 hE (by omega) (by omega)]
      simp only
      exact lazyM_loc k 0 t2 t (k2 - k) k' (by rw [show k + (k2 - k) = k2 from by omega]; exact h) (Nat.le_refl _) (by omega) rfl
  rw [if_neg c123] at h ⊢
  exact key (Tok.ofByte x) h

theorem piece_lex (p : List UInt8) (k k' : Nat) (t : Tok) (hs : p.length ≤ 1024) (hk : k < p.length) (h : oneM p k = .ok t k') : lexR (sub p k k') = ([{ t with at_ := 0 }], ((k' - k : Nat) : Int), 0) := by
  have h0 := oneM_ok p k t k' hk h
  have hl := sub_length p k k' h0.2.1
  have h1 := oneM_loc p k k' t hk h
  have h2 := toksM_ok (sub p k k') 0 (k' - k) _ (by omega) h1
  rw [toksM_end (sub p k k') _ (k' - k) (by omega)] at h2
  unfold lexR
  rw [if_neg (by omega)]
  unfold toksA
  rw [h2]
/-- The tokens follow each other. -/
theorem toksM_chain (p : List UInt8) : ∀ (n k : Nat), p.length - k ≤ n → k ≤ p.length → (toksM p p.length k).2.2 = none → ∀ (i : Nat) (t : Tok), (toksM p p.length k).1[i]? = some t →
      ∃ (j j' : Nat), t.at_ = j ∧ j < p.length ∧ oneM p j = .ok t j' ∧ (i = 0 → j = k) ∧ (match (toksM p p.length k).1[i + 1]? with | some u => u.at_ = j' | none => j' = p.length)
  | 0, k, hn, hk, _, i, t, h => by rw [toksM_end p _ k (by omega)] at h; simp at h
  | n + 1, k, hn, hk, hT, i, t, h => by
    by_cases hl : p.length ≤ k
    · rw [toksM_end p _ k hl] at h; simp at h
    · rcases ho : oneM p k with ⟨t1, k1⟩ | ⟨a, e⟩
      · have h1 := oneM_ok p k t1 k1 (by omega) ho
        rw [toksM_ok p k k1 t1 (by omega) ho] at hT h ⊢
        simp only at hT h ⊢
        cases i with
        | zero =>
          simp only [List.getElem?_cons_zero, Option.some.injEq] at h
          subst h
          refine ⟨k, k1, h1.2.2, by omega, ho, fun _ => rfl, ?_⟩
          simp only [List.getElem?_cons_succ]
          rcases hq : (toksM p p.length k1).1[0]? with _ | u
          · simp only
            by_cases hl1 : p.length ≤ k1
            · omega
            · exfalso
              rcases ho2 : oneM p k1 with ⟨t2, k2⟩ | ⟨a, e⟩
              · rw [toksM_ok p k1 k2 t2 (by omega) ho2] at hq; simp at hq
              · rw [toksM_bad p k1 a e (by omega) ho2] at hT; simp at hT
          · simp only
            obtain ⟨j, j', e1, _, _, e2, _⟩ := toksM_chain p n k1 (by omega) h1.2.1 hT 0 u hq
            rw [e1, e2 rfl]
        | succ i =>
          simp only [List.getElem?_cons_succ] at h ⊢
          obtain ⟨j, j', e1, e2, e3, _, e5⟩ := toksM_chain p n k1 (by omega) h1.2.1 hT i t h
          exact ⟨j, j', e1, e2, e3, fun h => by omega, e5⟩
      · rw [toksM_bad p k a e (by omega) ho] at hT; simp at hT
end Go.Proofs.Ytkfjnllbjlndlaa
