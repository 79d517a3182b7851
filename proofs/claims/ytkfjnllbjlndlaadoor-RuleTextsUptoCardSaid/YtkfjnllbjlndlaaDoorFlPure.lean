/- Plain facts about the letters of flags: which texts are the letters of some flags. No program in sight. -/
import Derived.Below
namespace Go.Proofs.YtkfjnllbjlndlaaDoor
namespace Fl

/-- The letters of five flags. -/
def letters (i s m o l : Bool) : List UInt8 :=
  (if i then [105] else []) ++ (if s then [115] else []) ++ (if m then [109] else []) ++ (if o then [111] else []) ++ (if l then [108] else [])

structure F5 where
  i : Bool
  s : Bool
  m : Bool
  o : Bool
  l : Bool
  deriving DecidableEq

def zero : F5 := ⟨false, false, false, false, false⟩
def lets (f : F5) : List UInt8 := letters f.i f.s f.m f.o f.l

/-- The place of a letter among them; -1: it is none. -/
def ix (c : UInt8) : Int := if c = 105 then 0 else if c = 115 then 1 else if c = 109 then 2 else if c = 111 then 3 else if c = 108 then 4 else -1

def setIx (f : F5) (k : Int) : F5 :=
  if k = 0 then { f with i := true } else if k = 1 then { f with s := true } else if k = 2 then { f with m := true } else if k = 3 then { f with o := true } else if k = 4 then { f with l := true } else f

/-- The reference's reader: from a state on; where it stands. -/
def rd : List UInt8 → Int → F5 → Option (F5 × Int)
  | [], k, f => some (f, k)
  | c :: cs, k, f => if k ≤ ix c then rd cs (ix c + 1) (setIx f (ix c)) else none

/-- The program's reader. -/
def setAll (cs : List UInt8) (f : F5) : F5 := cs.foldl (fun f c => setIx f (ix c)) f

def pf (cs : List UInt8) : F5 × Bool := if lets (setAll cs zero) = cs then (setAll cs zero, true) else (zero, false)

theorem ix_range (c : UInt8) : -1 ≤ ix c ∧ ix c ≤ 4 := by unfold ix; repeat' split <;> omega

theorem setAll_lets (f : F5) : setAll (lets f) zero = f := by
  obtain ⟨i, s, m, o, l⟩ := f
  cases i <;> cases s <;> cases m <;> cases o <;> cases l <;> decide
theorem rd_lets (f : F5) : (rd (lets f) 0 zero).map (·.1) = some f := by
  obtain ⟨i, s, m, o, l⟩ := f
  cases i <;> cases s <;> cases m <;> cases o <;> cases l <;> decide

/-- No flag from a place on. -/
def Low (k : Int) (f : F5) : Prop := (k ≤ 0 → f.i = false) ∧ (k ≤ 1 → f.s = false) ∧ (k ≤ 2 → f.m = false) ∧ (k ≤ 3 → f.o = false) ∧ (k ≤ 4 → f.l = false)

theorem lets_step (c : UInt8) (k : Int) (f : F5) (h0 : 0 ≤ k) (h : k ≤ ix c) (hl : Low k f) : lets (setIx f (ix c)) = lets f ++ [c] ∧ Low (ix c + 1) (setIx f (ix c)) := by
  obtain ⟨i, s, m, o, l⟩ := f
  obtain ⟨l0, l1, l2, l3, l4⟩ := hl
  unfold ix at h ⊢
  by_cases c0 : c = 105
  · subst c0
    have := l0 (by simpa using h); have := l1 (by simp at h; omega); have := l2 (by simp at h; omega); have := l3 (by simp at h; omega); have := l4 (by simp at h; omega)
    simp_all [setIx, lets, letters, Low]
  by_cases c1 : c = 115
  · subst c1
    have := l1 (by simpa using h); have := l2 (by simp at h; omega); have := l3 (by simp at h; omega); have := l4 (by simp at h; omega)
    simp_all [setIx, lets, letters, Low]
  by_cases c2 : c = 109
  · subst c2
    have := l2 (by simpa using h); have := l3 (by simp at h; omega); have := l4 (by simp at h; omega)
    simp_all [setIx, lets, letters, Low]
  by_cases c3 : c = 111
  · subst c3
    have := l3 (by simpa using h); have := l4 (by simp at h; omega)
    simp_all [setIx, lets, letters, Low]
  by_cases c4 : c = 108
  · subst c4
    have := l4 (by simpa using h)
    simp_all [setIx, lets, letters, Low]
  simp [c0, c1, c2, c3, c4] at h
  omega

theorem rd_some (cs : List UInt8) : ∀ (k : Int) (f g : F5) (j : Int), 0 ≤ k → Low k f → rd cs k f = some (g, j) → lets g = lets f ++ cs ∧ 0 ≤ j ∧ Low j g := by
  induction cs with
  | nil => intro k f g j h0 hl h; simp only [rd, Option.some.injEq, Prod.mk.injEq] at h; obtain ⟨rfl, rfl⟩ := h; simp [h0, hl]
  | cons c cs ih =>
    intro k f g j h0 hl h
    unfold rd at h
    split at h
    · rename_i hk
      obtain ⟨h1, h2⟩ := lets_step c k f h0 hk hl
      have h3 := ih _ _ _ _ (by omega) h2 h
      rw [h1] at h3
      simpa using h3
    · cases h

theorem low_zero : Low 0 zero := ⟨fun _ => rfl, fun _ => rfl, fun _ => rfl, fun _ => rfl, fun _ => rfl⟩

theorem pf_eq (cs : List UInt8) : pf cs = match rd cs 0 zero with | some (f, _) => (f, true) | none => (zero, false) := by
  cases h : rd cs 0 zero with
  | some p =>
    obtain ⟨f, j⟩ := p
    obtain ⟨h1, _⟩ := rd_some cs 0 zero f j (by omega) low_zero h
    have h2 : lets f = cs := by simpa [lets, letters, zero] using h1
    have h3 : setAll cs zero = f := by rw [← h2]; exact setAll_lets f
    simp [pf, h3, h2]
  | none =>
    unfold pf
    rw [if_neg]
    intro he
    have := rd_lets (setAll cs zero)
    rw [he, h] at this
    cases this

theorem pf_lets (f : F5) : pf (lets f) = (f, true) := by
  unfold pf
  rw [setAll_lets]
  simp

theorem rd_snoc (cs : List UInt8) (c : UInt8) : ∀ (k : Int) (f : F5), rd (cs ++ [c]) k f = (rd cs k f).bind fun p => if p.2 ≤ ix c then some (setIx p.1 (ix c), ix c + 1) else none := by
  induction cs with
  | nil => intro k f; simp [rd]
  | cons d cs ih => intro k f; simp only [List.cons_append, rd]; split <;> simp [ih]

end Fl
end Go.Proofs.YtkfjnllbjlndlaaDoor
