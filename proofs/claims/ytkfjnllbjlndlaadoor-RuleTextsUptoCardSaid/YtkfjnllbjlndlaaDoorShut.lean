/- A function's post with its returns behind a letter: the walk then stands at a return and does not try the results by itself. No program in sight. -/
import Derived.Test.YtkfjnllbjlndlaaDoorMem
namespace Go.Proofs.YtkfjnllbjlndlaaDoor
open Go.RowKit

def endPost (E : Act → World → Prop) (R : Ending → World → Prop) : Exit → Act → World → Prop
  | .normal, a, w => E a w
  | .ret, a, w => E a w
  | .panic chain, a, w => a.defers = [] ∧ R (.panicked chain) w
  | .outgrown, _, w => R .outgrown w
  | _, _, _ => False
theorem shut_post {P : Program} {fn : Func} {R : Ending → World → Prop} {c : Code} {a : Act} {w : World}
    (h : ∀ E : Act → World → Prop, Hid (∀ a w, bodyPost P fn R .ret a w → E a w) → c.wp P (endPost E R) a w) : c.wp P (bodyPost P fn R) a w := by
  refine Code.wp_mono ?_ (h (fun a w => bodyPost P fn R .ret a w) (Lib.hid fun _ _ h => h))
  intro e a w h
  cases e <;> exact h
theorem cell_far {W : World} {b z i j : Nat} {v u : Value} (h : W.cell? ⟨b, i, none⟩ = some v) (hne : b ≠ z) : (W.setCell ⟨z, j, none⟩ u).cell? ⟨b, i, none⟩ = some v := by
  rw [World.cell?_setCell_other]
  · exact h
  · intro e; injection e with e1; exact hne e1.symm
theorem cell_old {w W : World} {ad : Addr} {k i : Nat} {v u : Value} (h : W.cell? (ad.add k) = some v) (hb : ad.block < w.heap.size) : (W.setCell ⟨w.heap.size, i, none⟩ u).cell? (ad.add k) = some v := by
  rw [World.cell?_setCell_other]
  · exact h
  · intro e; have := congrArg Addr.block e; rw [block_of_add] at this; simp at this; omega
end Go.Proofs.YtkfjnllbjlndlaaDoor
