/- Unlike rules have unlike lines, in plain Lean. -/
import Derived.Test.YtkfjnllbjlndlaaDoorRuB
namespace Go.Proofs.YtkfjnllbjlndlaaDoor

def dval (l : List UInt8) : Nat := l.foldl (fun n c => 10 * n + (c.toNat - 48)) 0
theorem u8_digit (d : Nat) (h : d < 10) : (UInt8.ofNat (48 + d)).toNat = 48 + d := by
  simp only [UInt8.toNat_ofNat', Nat.reducePow]
  omega
theorem dval_dec (u : Nat) : dval (Lib.decDigits u) = u := by
  induction u using Nat.strongRecOn with
  | ind u ih =>
    rw [Lib.decDigits]
    split
    · rename_i h
      simp only [dval, List.foldl_cons, List.foldl_nil]
      rw [u8_digit u h]
      omega
    · rename_i h
      have h1 := ih (u / 10) (by omega)
      unfold dval at h1 ⊢
      rw [List.foldl_append, h1]
      simp only [List.foldl_cons, List.foldl_nil]
      rw [u8_digit (u % 10) (by omega)]
      omega
theorem dec_chars (u : Nat) : ∀ c ∈ Lib.decDigits u, 48 ≤ c.toNat ∧ c.toNat ≤ 57 := by
  induction u using Nat.strongRecOn with
  | ind u ih =>
    intro c hc
    rw [Lib.decDigits] at hc
    split at hc
    · rename_i h
      simp only [List.mem_cons, List.not_mem_nil, or_false] at hc
      subst hc
      rw [u8_digit u h]
      omega
    · rename_i h
      rw [List.mem_append] at hc
      rcases hc with hc | hc
      · exact ih (u / 10) (by omega) c hc
      · simp only [List.mem_cons, List.not_mem_nil, or_false] at hc
        subst hc
        rw [u8_digit (u % 10) (by omega)]
        omega
theorem split_slash {xs xs' ys ys' : List UInt8} (h1 : ∀ c ∈ xs, c ≠ 47) (h2 : ∀ c ∈ xs', c ≠ 47) (h : xs ++ 47 :: ys = xs' ++ 47 :: ys') : xs = xs' ∧ ys = ys' := by
  induction xs generalizing xs' with
  | nil =>
    cases xs' with
    | nil => simpa using h
    | cons c cs =>
      simp only [List.nil_append, List.cons_append, List.cons.injEq] at h
      exact absurd h.1.symm (h2 c (by simp))
  | cons c cs ih =>
    cases xs' with
    | nil =>
      simp only [List.nil_append, List.cons_append, List.cons.injEq] at h
      exact absurd h.1 (h1 c (by simp))
    | cons c' cs' =>
      simp only [List.cons_append, List.cons.injEq] at h
      obtain ⟨e1, e2⟩ := ih (fun x hx => h1 x (by simp [hx])) (fun x hx => h2 x (by simp [hx])) h.2
      exact ⟨by rw [h.1, e1], e2⟩
theorem lets_noslash (f : Fl.F5) : ∀ c ∈ Fl.lets f, c ≠ 47 := by
  obtain ⟨a, b, c, d, e⟩ := f
  cases a <;> cases b <;> cases c <;> cases d <;> cases e <;> decide
theorem dec_noslash (u : Nat) : ∀ c ∈ Lib.decDigits u, c ≠ 47 := by
  intro c hc e
  have := dec_chars u c hc
  subst e
  exact absurd this (by decide)
theorem lets_inj {f g : Fl.F5} (h : Fl.lets f = Fl.lets g) : f = g := by
  rw [← Fl.setAll_lets f, ← Fl.setAll_lets g, h]
theorem line_inj {a b : Ru} (ha : 1 ≤ a.id) (hb : 1 ≤ b.id) (h : a.line = b.line) : a = b := by
  obtain ⟨i, f, p⟩ := a
  obtain ⟨i', f', p'⟩ := b
  simp only at ha hb
  simp only [Ru.line, List.append_assoc, List.cons_append, List.nil_append] at h
  have e1 : Lib.itoa i = Lib.decDigits i.toNat := by unfold Lib.itoa; rw [if_neg (by omega)]
  have e2 : Lib.itoa i' = Lib.decDigits i'.toNat := by unfold Lib.itoa; rw [if_neg (by omega)]
  rw [e1, e2] at h
  obtain ⟨h1, h2⟩ := split_slash (dec_noslash _) (dec_noslash _) h
  obtain ⟨h3, h4⟩ := split_slash (lets_noslash _) (lets_noslash _) h2
  have h5 : i.toNat = i'.toNat := by rw [← dval_dec i.toNat, h1, dval_dec]
  obtain rfl : i = i' := by omega
  obtain rfl := lets_inj h3
  rw [h4]
theorem line_same (a b : Ru) (ha : a.chk = 0) (hb : b.chk = 0) : decide (a.line = b.line) = a.same b := by
  rw [Bool.eq_iff_iff, decide_eq_true_iff, Ru.same_iff]
  exact ⟨line_inj (chk_ok ha).1 (chk_ok hb).1, fun h => by rw [h]⟩
end Go.Proofs.YtkfjnllbjlndlaaDoor
