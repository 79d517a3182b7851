/- '==' of two flags. -/
import Derived.Test.YtkfjnllbjlndlaaDoorFlA
import Derived.Test.YtkfjnllbjlndlaaDoorEq
namespace Go.Proofs.YtkfjnllbjlndlaaDoor
open Go.RowKit
def Fl.F5.eq (f g : Fl.F5) : Bool := f.i == g.i && (f.s == g.s && (f.m == g.m && (f.o == g.o && (f.l == g.l && true))))
theorem Fl.F5.eq_iff (f g : Fl.F5) : f.eq g = true ↔ f = g := by
  obtain ⟨a, b, c, d, e⟩ := f
  obtain ⟨a', b', c', d', e'⟩ := g
  simp [Fl.F5.eq]
theorem Fl.F5.eq_self (f : Fl.F5) : f.eq f = true := (Fl.F5.eq_iff f f).2 rfl
theorem eqIn_flags (f g : Fl.F5) (w : World) (d : Nat) : (Op.equalIn (d + 3) 23 f.v g.v).run Tryd.prog w = .ok (f.eq g) w := by
  refine agg_eq Tryd.underlying23 (by kernel_rfl) ?_
  refine fields_cons (by rfl) (by go_simp; rfl) (by go_simp; rfl) (by go_simp) ?_
  refine fields_cons (by rfl) (by go_simp; rfl) (by go_simp; rfl) (by go_simp) ?_
  refine fields_cons (by rfl) (by go_simp; rfl) (by go_simp; rfl) (by go_simp) ?_
  refine fields_cons (by rfl) (by go_simp; rfl) (by go_simp; rfl) (by go_simp) ?_
  refine fields_cons (by rfl) (by go_simp; rfl) (by go_simp; rfl) (by go_simp) ?_
  exact fields_nil
theorem eql_flags (f g : Fl.F5) (w : World) : (binOp .eql 23 f.v g.v).run Tryd.prog w = .ok (.bool (f.eq g)) w := eql_of_equalIn (eqIn_flags f g w)
theorem neq_flags (f g : Fl.F5) (w : World) : (binOp .neq 23 f.v g.v).run Tryd.prog w = .ok (.bool (!f.eq g)) w := neq_of_equalIn (eqIn_flags f g w)
end Go.Proofs.YtkfjnllbjlndlaaDoor
