/- The plain part of a class's reading. -/
import Derived.Test.YtkfjnllbjlndlaaLxG
namespace Go.Proofs.Ytkfjnllbjlndlaa
open Go.RowKit

theorem hexM_facts (p : List UInt8) (k : Nat) (t : Tok) (k' : Nat) (h : hexM p k = some (t, k')) : k' = k + 2 ∧ 0 ≤ t.byte ∧ t.byte ≤ 255 ∧ t.kind = 1 := by
  unfold hexM at h
  rcases ha : nibM (byteAt p k) with _ | a
  · rw [ha] at h; cases h
  · rcases hb : nibM (byteAt p (k + 1)) with _ | b
    · rw [ha, hb] at h; cases h
    · rw [ha, hb] at h
      have h1 := nib_range _ _ ha
      have h2 := nib_range _ _ hb
      simp only [Option.some.injEq, Prod.mk.injEq] at h
      obtain ⟨rfl, rfl⟩ := h
      exact ⟨rfl, by simp only [Tok.ofByte]; omega, by simp only [Tok.ofByte]; omega, rfl⟩
theorem escM_facts (p : List UInt8) (k : Nat) (t : Tok) (k' : Nat) (h : escM p k = some (t, k')) : k < k' ∧ 0 ≤ t.byte ∧ t.byte ≤ 255 ∧ (t.kind = 1 ∨ t.kind = 2) := by
  rw [escM_at p k _ rfl] at h
  have hr : 0 ≤ byteAt p k → byteAt p k ≤ 255 := fun h => (byteAt_range p k (byteAt_pos p k h)).2
  have key : ∀ u : Tok, ∀ j : Nat, (k < j ∧ 0 ≤ u.byte ∧ u.byte ≤ 255 ∧ (u.kind = 1 ∨ u.kind = 2)) → some (u, j) = some (t, k') → (k < k' ∧ 0 ≤ t.byte ∧ t.byte ≤ 255 ∧ (t.kind = 1 ∨ t.kind = 2)) := by
    intro u j hu he
    injection he with he
    injection he with h1 h2
    subst h1 h2
    exact hu
  generalize byteAt p k = x at *
  by_cases c0 : x < 0
  · rw [if_pos c0] at h; cases h
  rw [if_neg c0] at h
  by_cases c1 : x = 100
  · rw [if_pos c1] at h; exact key _ _ ⟨by omega, by decide, by decide, .inr rfl⟩ h
  rw [if_neg c1] at h
  by_cases c2 : x = 119
  · rw [if_pos c2] at h; exact key _ _ ⟨by omega, by decide, by decide, .inr rfl⟩ h
  rw [if_neg c2] at h
  by_cases c3 : x = 115
  · rw [if_pos c3] at h; exact key _ _ ⟨by omega, by decide, by decide, .inr rfl⟩ h
  rw [if_neg c3] at h
  by_cases c4 : x = 68
  · rw [if_pos c4] at h; exact key _ _ ⟨by omega, by decide, by decide, .inr rfl⟩ h
  rw [if_neg c4] at h
  by_cases c5 : x = 87
  · rw [if_pos c5] at h; exact key _ _ ⟨by omega, by decide, by decide, .inr rfl⟩ h
  rw [if_neg c5] at h
  by_cases c6 : x = 83
  · rw [if_pos c6] at h; exact key _ _ ⟨by omega, by decide, by decide, .inr rfl⟩ h
  rw [if_neg c6] at h
  by_cases c7 : x = 110
  · rw [if_pos c7] at h; exact key _ _ ⟨by omega, by decide, by decide, .inl rfl⟩ h
  rw [if_neg c7] at h
  by_cases c8 : x = 114
  · rw [if_pos c8] at h; exact key _ _ ⟨by omega, by decide, by decide, .inl rfl⟩ h
  rw [if_neg c8] at h
  by_cases c9 : x = 116
  · rw [if_pos c9] at h; exact key _ _ ⟨by omega, by decide, by decide, .inl rfl⟩ h
  rw [if_neg c9] at h
  by_cases c10 : x = 120
  · rw [if_pos c10] at h; have := hexM_facts _ _ _ _ h; omega
  rw [if_neg c10] at h
  by_cases c11 : (letM x || digM x) = true
  · rw [if_pos c11] at h; cases h
  rw [if_neg c11] at h
  exact key _ _ ⟨by omega, by simp only [Tok.ofByte]; omega, by simp only [Tok.ofByte]; omega, .inl rfl⟩ h
theorem unitM_facts (p : List UInt8) (k : Nat) (t : Tok) (k' : Nat) (hk : k < p.length) (h : unitM p k = some (t, k')) : k < k' ∧ 0 ≤ t.byte ∧ t.byte ≤ 255 ∧ (t.kind = 1 ∨ t.kind = 2) := by
  unfold unitM at h
  have hr := byteAt_range p k hk
  split at h
  · have := escM_facts _ _ _ _ h; omega
  · simp only [Option.some.injEq, Prod.mk.injEq] at h
    obtain ⟨rfl, rfl⟩ := h
    exact ⟨by omega, hr.1, hr.2, .inl rfl⟩

theorem setM_step (p : List UInt8) (o : Nat) (n : Bool) (f k : Nat) (first : Bool) (c : Cl) : setM p o n (f + 1) k first c =
    if byteAt p k < 0 then .bad o 41
    else if byteAt p k = 93 then (if first then .bad o 41 else if n = true ∧ c = Cl.full then .bad o 41 else .ok c (k + 1))
    else match unitM p k with
      | none => .bad k 40
      | some (lo, k1) =>
        if byteAt p (k1 + 1) < 0 ∨ byteAt p k1 ≠ 45 ∨ byteAt p (k1 + 1) = 93 then setM p o n f k1 false (Cl.union [c, lo.ofUnit])
        else match unitM p (k1 + 1) with
          | none => .bad (k1 + 1) 40
          | some (hi, k2) => if lo.kind ≠ 1 ∨ hi.kind ≠ 1 ∨ lo.byte > hi.byte then .bad k 42 else setM p o n f k2 false (Cl.union [c, Cl.range lo.byte hi.byte]) := rfl

def SetRes (w' : World) (g B : Nat) (A : Option Addr) (c : Nat) (p : List UInt8) (n : Bool) (r : Rd Cl) (e : Ending) : Prop :=
  match r with
  | .ok cl k' => e = .returned (.tuple #[({ Tok.zero with kind := 2, cls := cl, not_ := n } : Tok).v, .int .i64 0, .int .i64 0]) ∧ Lx w' g B A c p k'
  | .bad a er => ∃ (t : Tok) (k' : Nat), e = .returned (.tuple #[t.v, .int .i64 a, .int .i64 er]) ∧ Lx w' g B A c p k' ∧ er ≠ 0
end Go.Proofs.Ytkfjnllbjlndlaa
