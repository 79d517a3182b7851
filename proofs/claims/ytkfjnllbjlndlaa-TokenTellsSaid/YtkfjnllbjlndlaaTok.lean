/- Tokens as values, and the reading of a pattern in plain Lean. -/
import Derived.Test.YtkfjnllbjlndlaaClsE
import Derived.Test.YtkfjnllbjlndlaaLxA
namespace Go.Proofs.Ytkfjnllbjlndlaa
open Go.RowKit

structure Tok where
  kind : Int
  byte : Int
  cls : Cl
  not_ : Bool
  least : Int
  most : Int
  lazy : Bool
  at_ : Int
  deriving DecidableEq

def Tok.zero : Tok := ⟨0, 0, Cl.zero, false, 0, 0, false, 0⟩
def Tok.list (t : Tok) : List Value := [.int .i64 t.kind, .int .u8 t.byte, .int .u64 t.cls.a, .int .u64 t.cls.b, .int .u64 t.cls.c, .int .u64 t.cls.d, .bool t.not_, .int .i64 t.least, .int .i64 t.most, .bool t.lazy, .int .i64 t.at_]
def Tok.cells (t : Tok) : Array Value := #[.int .i64 t.kind, .int .u8 t.byte, .int .u64 t.cls.a, .int .u64 t.cls.b, .int .u64 t.cls.c, .int .u64 t.cls.d, .bool t.not_, .int .i64 t.least, .int .i64 t.most, .bool t.lazy, .int .i64 t.at_]
def Tok.v (t : Tok) : Value := .agg #[.int .i64 t.kind, .int .u8 t.byte, .int .u64 t.cls.a, .int .u64 t.cls.b, .int .u64 t.cls.c, .int .u64 t.cls.d, .bool t.not_, .int .i64 t.least, .int .i64 t.most, .bool t.lazy, .int .i64 t.at_]
def Tok.ofByte (b : Int) : Tok := { Tok.zero with kind := 1, byte := b }
def Tok.ofCls (c : Cl) : Tok := { Tok.zero with kind := 2, cls := c }

def byteAt (p : List UInt8) (k : Nat) : Int := match p[k]? with | some b => b.toNat | none => -1
theorem byteAt_lt (p : List UInt8) (k : Nat) (h : k < p.length) : byteAt p k = (p[k]).toNat := by unfold byteAt; rw [List.getElem?_eq_getElem h]
theorem byteAt_ge (p : List UInt8) (k : Nat) (h : p.length ≤ k) : byteAt p k = -1 := by unfold byteAt; rw [List.getElem?_eq_none h]
theorem byteAt_range (p : List UInt8) (k : Nat) (h : k < p.length) : 0 ≤ byteAt p k ∧ byteAt p k ≤ 255 := by rw [byteAt_lt p k h]; have := (p[k]).toNat_lt; omega
theorem byteAt_pos (p : List UInt8) (k : Nat) (h : 0 ≤ byteAt p k) : k < p.length := by
  rcases Nat.lt_or_ge k p.length with h1 | h1
  · exact h1
  · rw [byteAt_ge p k h1] at h; omega

/-- What stands behind an escape's x, from a place on. -/
def hexM (p : List UInt8) (k : Nat) : Option (Tok × Nat) :=
  match nibM (byteAt p k), nibM (byteAt p (k + 1)) with
  | some h, some l => some (Tok.ofByte (16 * h + l), k + 2)
  | _, _ => none

/-- What stands behind a \\ , from a place on. -/
def escM (p : List UInt8) (k : Nat) : Option (Tok × Nat) :=
  let b := byteAt p k
  if b < 0 then none
  else if b = 100 then some (Tok.ofCls Cl.digit, k + 1)
  else if b = 119 then some (Tok.ofCls Cl.word, k + 1)
  else if b = 115 then some (Tok.ofCls Cl.space, k + 1)
  else if b = 68 then some (Tok.ofCls Cl.digit.not, k + 1)
  else if b = 87 then some (Tok.ofCls Cl.word.not, k + 1)
  else if b = 83 then some (Tok.ofCls Cl.space.not, k + 1)
  else if b = 110 then some (Tok.ofByte 10, k + 1)
  else if b = 114 then some (Tok.ofByte 13, k + 1)
  else if b = 116 then some (Tok.ofByte 9, k + 1)
  else if b = 120 then hexM p (k + 1)
  else if letM b || digM b then none
  else some (Tok.ofByte b, k + 1)

def unitM (p : List UInt8) (k : Nat) : Option (Tok × Nat) := if byteAt p k = 92 then escM p (k + 1) else some (Tok.ofByte (byteAt p k), k + 1)

def Tok.ofUnit (t : Tok) : Cl := if t.kind = 1 then Cl.zero.set t.byte else t.cls

inductive Rd (α : Type) where
  | ok (a : α) (k : Nat)
  | bad (at_ e : Int)

def setM (p : List UInt8) (open_ : Nat) (not_ : Bool) : Nat → Nat → Bool → Cl → Rd Cl
  | 0, _, _, _ => .bad 0 0
  | f + 1, k, first, c =>
    if byteAt p k < 0 then .bad open_ 41
    else if byteAt p k = 93 then (if first then .bad open_ 41 else if not_ = true ∧ c = Cl.full then .bad open_ 41 else .ok c (k + 1))
    else match unitM p k with
      | none => .bad k 40
      | some (lo, k1) =>
        if byteAt p (k1 + 1) < 0 ∨ byteAt p k1 ≠ 45 ∨ byteAt p (k1 + 1) = 93 then setM p open_ not_ f k1 false (Cl.union [c, lo.ofUnit])
        else match unitM p (k1 + 1) with
          | none => .bad (k1 + 1) 40
          | some (hi, k2) => if lo.kind ≠ 1 ∨ hi.kind ≠ 1 ∨ lo.byte > hi.byte then .bad k 42 else setM p open_ not_ f k2 false (Cl.union [c, Cl.range lo.byte hi.byte])

/-- The digits from a place on, as a number (at most 1,001), and the place behind them. -/
def numL (p : List UInt8) : Nat → Nat → Int → Int × Nat
  | 0, k, n => (n, k)
  | f + 1, k, n => if digM (byteAt p k) then numL p f (k + 1) (min (10 * n + (byteAt p k - 48)) 1001) else (n, k)
def numM (p : List UInt8) (k : Nat) : Option (Int × Nat) :=
  let r := numL p (p.length - k) k 0
  if r.2 = k ∨ (byteAt p k = 48 ∧ k + 1 < r.2) ∨ 1000 < r.1 then none else some r

def cntM (p : List UInt8) (k : Nat) : Option (Tok × Nat) :=
  match numM p k with
  | none => none
  | some (n, k1) =>
    if byteAt p k1 = 44 then
      if byteAt p (k1 + 1) = 125 then some ({ Tok.zero with kind := 7, least := n, most := -1 }, k1 + 2)
      else match numM p (k1 + 1) with
        | none => none
        | some (m, k2) => if m < n ∨ byteAt p k2 ≠ 125 then none else some ({ Tok.zero with kind := 7, least := n, most := m }, k2 + 1)
    else if byteAt p k1 = 125 then some ({ Tok.zero with kind := 7, least := n, most := n }, k1 + 1) else none

def lazyM (p : List UInt8) (at_ : Nat) (t : Tok) (k : Nat) : Rd Tok := if byteAt p k = 63 then .ok { t with lazy := true, at_ := at_ } (k + 1) else .ok { t with at_ := at_ } k

def oneM (p : List UInt8) (k : Nat) : Rd Tok :=
  let b := byteAt p k
  if b = 92 then match escM p (k + 1) with | none => .bad k 40 | some (t, k1) => .ok { t with at_ := k } k1
  else if b = 91 then
    let n := decide (byteAt p (k + 1) = 94)
    match setM p k n (p.length + 1) (if n then k + 2 else k + 1) true Cl.zero with
    | .bad a e => .bad a e
    | .ok c k1 => .ok { Tok.zero with kind := 2, cls := c, not_ := n, at_ := k } k1
  else if b = 46 then .ok { Tok.zero with kind := 3, at_ := k } (k + 1)
  else if b = 40 then
    if byteAt p (k + 1) = 63 then (if byteAt p (k + 2) = 58 then .ok { Tok.zero with kind := 4, at_ := k } (k + 3) else .bad k 44)
    else .ok { Tok.zero with kind := 4, at_ := k } (k + 1)
  else if b = 41 then .ok { Tok.zero with kind := 5, at_ := k } (k + 1)
  else if b = 124 then .ok { Tok.zero with kind := 6, at_ := k } (k + 1)
  else if b = 94 then .ok { Tok.zero with kind := 8, at_ := k } (k + 1)
  else if b = 36 then .ok { Tok.zero with kind := 9, at_ := k } (k + 1)
  else if b = 43 then lazyM p k { Tok.zero with kind := 7, least := 1, most := -1 } (k + 1)
  else if b = 42 then lazyM p k { Tok.zero with kind := 7, least := 0, most := -1 } (k + 1)
  else if b = 63 then lazyM p k { Tok.zero with kind := 7, least := 0, most := 1 } (k + 1)
  else if b = 123 then match cntM p (k + 1) with | none => .bad k 43 | some (t, k1) => lazyM p k t k1
  else .ok { Tok.ofByte b with at_ := k } (k + 1)

/-- The tokens from a place on, and where it ends, or what is wrong. -/
def toksM (p : List UInt8) : Nat → Nat → List Tok × Nat × Option (Int × Int)
  | 0, k => ([], k, none)
  | f + 1, k => if p.length ≤ k then ([], k, none) else match oneM p k with
    | .bad a e => ([], k, some (a, e))
    | .ok t k1 => (t :: (toksM p f k1).1, (toksM p f k1).2)

end Go.Proofs.Ytkfjnllbjlndlaa
