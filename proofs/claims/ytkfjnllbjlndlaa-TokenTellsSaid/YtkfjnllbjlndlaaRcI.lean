/- The reference's Lex and Tokens. -/
import Derived.Test.YtkfjnllbjlndlaaRcH
namespace Go.Proofs.Ytkfjnllbjlndlaa
open Go.RowKit

theorem setM_bad (p : List UInt8) (o : Nat) (n : Bool) : ∀ (f k : Nat) (first : Bool) (c : Cl) (a e : Int), k ≤ p.length → p.length < f + k → setM p o n f k first c = .bad a e → e ≠ 0
  | 0, k, _, _, _, _, h1, h2, _ => by omega
  | f + 1, k, first, c, a, e, hk, hf, h => by
    rw [setM_step] at h
    have key : ∀ (x y : Int), y ≠ 0 → (Rd.bad x y : Rd Cl) = .bad a e → e ≠ 0 := by
      intro x y hy he
      injection he with _ he
      omega
    by_cases hb : byteAt p k < 0
    · rw [if_pos hb] at h; exact key _ _ (by decide) h
    rw [if_neg hb] at h
    have hk2 := byteAt_pos p k (by omega)
    by_cases h93 : byteAt p k = 93
    · rw [if_pos h93] at h
      split at h
      · exact key _ _ (by decide) h
      · split at h
        · exact key _ _ (by decide) h
        · cases h
    rw [if_neg h93] at h
    rcases hu : unitM p k with _ | ⟨lo, k1⟩
    · rw [hu] at h; exact key _ _ (by decide) h
    rw [hu] at h
    simp only at h
    have f1 := (unitM_facts p k lo k1 hk2 hu).1
    have f2 := unitM_le p k lo k1 hk2 hu
    split at h
    · exact setM_bad p o n f k1 false _ a e f2 (by omega) h
    · rename_i hc
      have hk1 : k1 + 1 < p.length := byteAt_pos p (k1 + 1) (by omega)
      rcases hv : unitM p (k1 + 1) with _ | ⟨hi, k2⟩
      · rw [hv] at h; exact key _ _ (by decide) h
      rw [hv] at h
      simp only at h
      have f3 := (unitM_facts p (k1 + 1) hi k2 hk1 hv).1
      have f4 := unitM_le p (k1 + 1) hi k2 hk1 hv
      split at h
      · exact key _ _ (by decide) h
      · exact setM_bad p o n f k2 false _ a e f4 (by omega) h
theorem oneM_bad (p : List UInt8) (k : Nat) (a e : Int) (hk : k < p.length) (h : oneM p k = .bad a e) : e ≠ 0 := by
  rw [oneM_at p k _ rfl] at h
  have key : ∀ (x y : Int), y ≠ 0 → (Rd.bad x y : Rd Tok) = .bad a e → e ≠ 0 := by
    intro x y hy he
    injection he with _ he
    omega
  have lz : ∀ (u : Tok) (j : Nat), lazyM p k u j = .bad a e → e ≠ 0 := by
    intro u j hl
    unfold lazyM at hl
    split at hl <;> cases hl
  by_cases c1 : byteAt p k = 92
  · rw [if_pos c1] at h
    split at h
    · exact key _ _ (by decide) h
    · cases h
  rw [if_neg c1] at h
  by_cases c2 : byteAt p k = 91
  · rw [if_pos c2] at h
    simp only at h
    split at h
    · rename_i hS
      injection h with _ h
      subst h
      refine setM_bad _ _ _ _ _ _ _ _ _ ?_ (by omega) hS
      split
      · rename_i h94
        have := byteAt_pos p (k + 1) (by have := of_decide_eq_true h94; omega)
        omega
      · omega
    · cases h
  rw [if_neg c2] at h
  by_cases c3 : byteAt p k = 46
  · rw [if_pos c3] at h; cases h
  rw [if_neg c3] at h
  by_cases c4 : byteAt p k = 40
  · rw [if_pos c4] at h
    split at h
    · split at h
      · cases h
      · exact key _ _ (by decide) h
    · cases h
  rw [if_neg c4] at h
  by_cases c5 : byteAt p k = 41
  · rw [if_pos c5] at h; cases h
  rw [if_neg c5] at h
  by_cases c6 : byteAt p k = 124
  · rw [if_pos c6] at h; cases h
  rw [if_neg c6] at h
  by_cases c7 : byteAt p k = 94
  · rw [if_pos c7] at h; cases h
  rw [if_neg c7] at h
  by_cases c8 : byteAt p k = 36
  · rw [if_pos c8] at h; cases h
  rw [if_neg c8] at h
  by_cases c9 : byteAt p k = 43
  · rw [if_pos c9] at h; exact lz _ _ h
  rw [if_neg c9] at h
  by_cases c10 : byteAt p k = 42
  · rw [if_pos c10] at h; exact lz _ _ h
  rw [if_neg c10] at h
  by_cases c11 : byteAt p k = 63
  · rw [if_pos c11] at h; exact lz _ _ h
  rw [if_neg c11] at h
  by_cases c12 : byteAt p k = 123
  · rw [if_pos c12] at h
    split at h
    · exact key _ _ (by decide) h
    · exact lz _ _ h
  rw [if_neg c12] at h
  cases h

/-- What Lex answers. -/
def lexR (p : List UInt8) : List Tok × Int × Int := if 1024 < p.length then ([], 0, 3) else match (toksA p).2.2 with
  | none => ((toksA p).1, ((toksA p).2.1 : Int), 0)
  | some (a, e) => ([], a, e)
theorem toksA_bad (p : List UInt8) (a e : Int) (h : (toksA p).2.2 = some (a, e)) : e ≠ 0 := by
  have h1 := (toksM_read p p.length 0 (by omega) (by omega)).2.2
  unfold toksA at h
  rw [h] at h1
  exact oneM_bad p _ a e h1.1 h1.2

def LexC (w w' : World) (p : List UInt8) (e : Ending) : Prop :=
  (∃ v, e = .returned (.tuple #[v, .int .i64 (lexR p).2.1, .int .i64 (lexR p).2.2]) ∧ w'.ownsRow w.heap.size 49 11 v (lexR p).1.length (tcells (lexR p).1)) ∧ Below w.heap.size w w'

theorem rlex_any (w : World) (A : Option Addr) (c : Nat) (p : List UInt8) (hr : RdB w w.heap.size A p) :
    Calls Try.prog 20 #[.slice A p.length c] w fun e w' => LexC w w' p e := by
  by_cases hl : 1024 < p.length
  · have HL := Lib.hid (show lexR p = ([], 0, 3) by rw [lexR, if_pos hl])
    have hli : (1024 : Int) < (p.length : Int) := by omega
    go_enter Try.func20, Try.ntmps20
    go_wp2
    go_ret3
    unfold LexC
    rw [HL.out]
    exact ⟨⟨_, rfl, World.ownsRow_nil _ _ _ _⟩, Below.refl _ _⟩
  · have hli : ¬ (1024 : Int) < (p.length : Int) := by omega
    have hs : p.length ≤ 1024 := by omega
    have HRW := Lib.hid hr
    clear hr
    rcases hT : (toksA p).2.2 with _ | ⟨a, er⟩
    · have HL := Lib.hid (show lexR p = ((toksA p).1, ((toksA p).2.1 : Int), 0) by rw [lexR, if_neg hl, hT])
      have HE := Lib.hid (show endsM (toksA p) = (((toksA p).2.1 : Int), 0) by rw [endsM, hT])
      clear hT
      go_enter Try.func20, Try.ntmps20
      go_wp2_with (go_at_call 35; refine (rfirst_any _ A c p HRW.out hs).mono ?_; rintro e w1 ⟨⟨v, rfl, ho⟩, hb⟩; rw [HE.out]; have HO := Lib.hid ho; have HB := Lib.hid hb; clear ho hb)
      go_ret3
      unfold LexC
      rw [HL.out]
      exact ⟨⟨_, rfl, HO.out⟩, HB.out⟩
    · have her : (er != 0) = true := bne_iff_ne.2 (toksA_bad p a er hT)
      have HL := Lib.hid (show lexR p = ([], a, er) by rw [lexR, if_neg hl, hT])
      have HE := Lib.hid (show endsM (toksA p) = (a, er) by rw [endsM, hT])
      clear hT
      go_enter Try.func20, Try.ntmps20
      go_wp2_with (go_at_call 35; refine (rfirst_any _ A c p HRW.out hs).mono ?_; rintro e w1 ⟨⟨v, rfl, ho⟩, hb⟩; rw [HE.out]; have HO := Lib.hid ho; have HB := Lib.hid hb; clear ho hb)
      go_ret3
      unfold LexC
      rw [HL.out]
      exact ⟨⟨_, rfl, World.ownsRow_nil _ _ _ _⟩, HB.out⟩

/-- What Tokens answers. -/
def tokR (p : List UInt8) : List Tok := if 1024 < p.length then [] else (toksA p).1
theorem rtokens_any (w : World) (A : Option Addr) (c : Nat) (p : List UInt8) (hr : RdB w w.heap.size A p) :
    Calls Try.prog 22 #[.slice A p.length c] w fun e w' => (∃ v, e = .returned v ∧ w'.ownsRow w.heap.size 49 11 v (tokR p).length (tcells (tokR p))) ∧ Below w.heap.size w w' := by
  by_cases hl : 1024 < p.length
  · have HL := Lib.hid (show tokR p = [] by rw [tokR, if_pos hl])
    have hli : (1024 : Int) < (p.length : Int) := by omega
    go_enter Try.func22, Try.ntmps22
    go_wp2
    go_ret
    rw [HL.out]
    exact ⟨⟨_, rfl, World.ownsRow_nil _ _ _ _⟩, Below.refl _ _⟩
  · have hli : ¬ (1024 : Int) < (p.length : Int) := by omega
    have hs : p.length ≤ 1024 := by omega
    have HRW := Lib.hid hr
    have HL := Lib.hid (show tokR p = (toksA p).1 by rw [tokR, if_neg hl])
    clear hr
    go_enter Try.func22, Try.ntmps22
    go_wp2_with (go_at_call 35; refine (rfirst_any _ A c p HRW.out hs).mono ?_; rintro e w1 ⟨⟨v, rfl, ho⟩, hb⟩; have HO := Lib.hid ho; have HB := Lib.hid hb; clear ho hb)
    go_ret
    rw [HL.out]
    exact ⟨⟨_, rfl, HO.out⟩, HB.out⟩
end Go.Proofs.Ytkfjnllbjlndlaa
