/- riddleref04.Same: the same token but for its place. -/
import Derived.Test.YtkfjnllbjlndlaaTkQ
namespace Go.Proofs.Ytkfjnllbjlndlaa
open Go.RowKit

set_option maxRecDepth 100000 in
set_option maxHeartbeats 1000000 in
theorem same_any (w : World) (a b : Tok) : Calls Try.prog 19 #[a.v, b.v] w fun e w' => e = .returned (.bool (({ a with at_ := b.at_ } : Tok).eq b)) ∧ Below w.heap.size w w' := by
  have hq := fun (W : World) => eql_tok { a with at_ := b.at_ } b W
  simp only [Tok.v] at hq
  unfold Tok.v
  go_enter Try.func19, Try.ntmps19
  go_wp2
  go_ret
  exact ⟨rfl, (((Below.refl _ _).alloc (Nat.le_refl _) _).alloc (by simp) _)⟩
theorem same_at (w : World) (t : Tok) (i : Int) : Calls Try.prog 19 #[({ t with at_ := i } : Tok).v, t.v] w fun e w' => e = .returned (.bool true) ∧ Below w.heap.size w w' := by
  have h := same_any w { t with at_ := i } t
  rw [show ({ ({ t with at_ := i } : Tok) with at_ := t.at_ } : Tok).eq t = true from (Tok.eq_iff _ _).2 rfl] at h
  exact h
end Go.Proofs.Ytkfjnllbjlndlaa
