/- What a rule's line says, in plain Lean. -/
import Derived.Test.YtkfjnllbjlndlaaDoorFlPure
import Derived.Test.YtkfjnllbjlndlaaDoorId
import Derived.Lib.IndexLaws
import Derived.Lib.Bytealg
namespace Go.Proofs.YtkfjnllbjlndlaaDoor

/-- The flags of a line, from behind the id's / on: with what stands behind the next / ; or where they are wrong. -/
def flM : List UInt8 → Int → Fl.F5 → Int → Option (Fl.F5 × List UInt8) × Int
  | [], _, _, at_ => (none, at_)
  | c :: cs, j, f, at_ => if c = 47 then (some (f, cs), at_) else if j ≤ Fl.ix c then flM cs (Fl.ix c + 1) (Fl.setIx f (Fl.ix c)) (at_ + 1) else (none, at_)

structure LineR where
  id : Int
  f : Fl.F5
  p : List UInt8
  at_ : Int
  e : Int
  deriving DecidableEq

def LineR.bad (at_ e : Int) : LineR := ⟨0, Fl.zero, [], at_, e⟩

def patM (id : Int) (f : Fl.F5) (p : List UInt8) (first whole : Int) : LineR :=
  if 0 ≤ Lib.indexByte p 10 ∧ ¬ (1024 < p.length ∧ 1024 ≤ Lib.indexByte p 10) then LineR.bad (first + Lib.indexByte p 10) 201
  else if 1024 < p.length then LineR.bad (first + 1024) 3
  else ⟨id, f, p, whole, 0⟩

def finM (id whole : Int) : Option (Fl.F5 × List UInt8) × Int → LineR
  | (none, at_) => LineR.bad at_ 201
  | (some (f, p), at_) => patM id f p (at_ + 1) whole

def lineM (bs : List UInt8) : LineR :=
  if (idM bs 0 0).2.2 = true then finM (idM bs 0 0).1 bs.length (flM (bs.drop ((idM bs 0 0).2.1.toNat + 1)) 0 Fl.zero ((idM bs 0 0).2.1 + 1))
  else LineR.bad (idM bs 0 0).2.1 201

theorem indexByte_bd (l : List UInt8) (c : UInt8) : -1 ≤ Lib.indexByte l c ∧ Lib.indexByte l c < l.length := by
  have h := Lib.indexByte_ge l c
  refine ⟨h, ?_⟩
  rcases Int.lt_or_le (Lib.indexByte l c) 0 with h0 | h0
  · omega
  · obtain ⟨o, ho⟩ := Int.eq_ofNat_of_zero_le h0
    have := (Lib.indexByte_some ho).1
    have := (List.getElem?_eq_some_iff.1 this).1
    omega

theorem idM_ok (bs : List UInt8) : ∀ (n at_ : Int), 0 ≤ at_ → (idM bs n at_).2.2 = true → 0 ≤ (idM bs n at_).2.1 ∧ (idM bs n at_).2.1 < at_ + bs.length := by
  induction bs with
  | nil => intro n a h0 h; simp [idM] at h
  | cons c cs ih =>
    intro n a h0
    unfold idM
    split
    · intro _; simp only [List.length_cons]; omega
    · split
      · intro h; cases h
      · intro h
        have := ih _ _ (by omega) h
        simp only [List.length_cons]
        omega
end Go.Proofs.YtkfjnllbjlndlaaDoor
