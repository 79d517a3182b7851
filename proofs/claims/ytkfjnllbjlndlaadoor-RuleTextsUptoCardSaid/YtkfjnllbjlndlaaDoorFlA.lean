/- What the functions on flags compute: rule.Flags, rule.ParseFlags, riddleref20.Flags, riddleref20.ParseFlags. -/
import Derived.Test.YtkfjnllbjlndlaaDoorProg
import Derived.Test.YtkfjnllbjlndlaaDoorFlPure
import Derived.WalkKit
import Derived.WalkSpells
import Derived.WalkLawsBesides
import Derived.LoopTactic
import Derived.LoopN
import Derived.Handy
import Derived.BigRegion
import Derived.Lib.Hide
namespace Go.Proofs.YtkfjnllbjlndlaaDoor
open Go.RowKit

def Fl.F5.v (f : Fl.F5) : Value := .agg #[.bool f.i, .bool f.s, .bool f.m, .bool f.o, .bool f.l]

set_option maxHeartbeats 4000000 in
theorem flags_any (f : Fl.F5) (w : World) :
    Calls Tryd.prog 37 #[f.v] w fun e w' => e = .returned (.string ⟨(Fl.lets f).toArray⟩) ∧ Below w.heap.size w w' := by
  obtain ⟨i, s, m, o, l⟩ := f
  cases i <;> cases s <;> cases m <;> cases o <;> cases l <;>
  · show Calls Tryd.prog 37 #[.agg #[_, _, _, _, _]] w _
    go_enter Tryd.func37, Tryd.ntmps37
    go_wp2
    go_ret
    exact ⟨rfl, (Below.refl _ _).alloc (Nat.le_refl _) _⟩

/-- riddleref20.flag at a place of 0 to 4. -/
def Fl.F5.get (f : Fl.F5) (k : Int) : Bool := if k = 0 then f.i else if k = 1 then f.s else if k = 2 then f.m else if k = 3 then f.o else f.l

set_option maxHeartbeats 1000000 in
theorem flag_any (f : Fl.F5) (k : Int) (h0 : 0 ≤ k) (h1 : k ≤ 4) (w : World) :
    Calls Tryd.prog 93 #[f.v, .int .i64 k] w fun e w' => e = .returned (.bool (f.get k)) ∧ Below w.heap.size w w' := by
  obtain ⟨i, s, m, o, l⟩ := f
  have hk : k = 0 ∨ k = 1 ∨ k = 2 ∨ k = 3 ∨ k = 4 := by omega
  rcases hk with rfl | rfl | rfl | rfl | rfl <;>
  · show Calls Tryd.prog 93 #[.agg #[_, _, _, _, _], _] w _
    go_enter Tryd.func93, Tryd.ntmps93
    go_wp2
    go_ret
    exact ⟨rfl, (Below.refl _ _).alloc (Nat.le_refl _) _⟩

end Go.Proofs.YtkfjnllbjlndlaaDoor
