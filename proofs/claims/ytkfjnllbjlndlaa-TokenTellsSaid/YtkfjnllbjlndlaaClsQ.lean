/- '==' of two classes. -/
import Derived.Test.YtkfjnllbjlndlaaCls
import Derived.Test.YtkfjnllbjlndlaaEq
namespace Go.Proofs.Ytkfjnllbjlndlaa
open Go.RowKit

def Cl.eq (c e : Cl) : Bool := c.a == e.a && (c.b == e.b && (c.c == e.c && c.d == e.d))
theorem Cl.eq_iff (c e : Cl) : c.eq e = true ↔ c = e := by
  obtain ⟨a, b, c, d⟩ := c
  obtain ⟨a', b', c', d'⟩ := e
  simp [Cl.eq]
theorem eqIn_class (c e : Cl) (w : World) (d : Nat) : (Op.equalIn (d + 3) 47 c.v e.v).run Try.prog w = .ok (c.eq e) w := by
  have hu := Try.underlying47
  unfold Cl.v
  rw [show d + 3 = (d + 2) + 1 from rfl, Op.equalIn]
  simp only [Sem.run_bind, run_underlying hu, Result.andThen_ok]
  have hs : (sizeOf 45).run Try.prog w = .ok 1 w := by go_simp
  have hl : List.range' 0 4 1 = [0, 1, 2, 3] := rfl
  have hp : ∀ (a b c d : Int), (part 45 #[.int .u64 a, .int .u64 b, .int .u64 c, .int .u64 d] 0).run Try.prog w = .ok (.int .u64 a) w ∧ (part 45 #[.int .u64 a, .int .u64 b, .int .u64 c, .int .u64 d] 1).run Try.prog w = .ok (.int .u64 b) w ∧ (part 45 #[.int .u64 a, .int .u64 b, .int .u64 c, .int .u64 d] 2).run Try.prog w = .ok (.int .u64 c) w ∧ (part 45 #[.int .u64 a, .int .u64 b, .int .u64 c, .int .u64 d] 3).run Try.prog w = .ok (.int .u64 d) w := by
    intro a b c d
    exact ⟨by go_simp, by go_simp, by go_simp, by go_simp⟩
  have hq : ∀ (a b : Int), (Op.equalIn (d + 2) 45 (.int .u64 a) (.int .u64 b)).run Try.prog w = .ok (a == b) w := by intro a b; go_simp
  rw [hs]
  obtain ⟨p0, p1, p2, p3⟩ := hp c.a c.b c.c c.d
  obtain ⟨r0, r1, r2, r3⟩ := hp e.a e.b e.c e.d
  simp only [Result.andThen_ok, Std.Legacy.Range.forIn_eq_forIn_range', Std.Legacy.Range.size, Nat.sub_zero, Nat.add_one_sub_one, Nat.div_one, Nat.reduceAdd, hl, List.forIn_cons, List.forIn_nil, Nat.mul_one, Sem.run_bind, p0, r0, hq]
  unfold Cl.eq
  cases h0 : (c.a == e.a) <;> cases h1 : (c.b == e.b) <;> cases h2 : (c.c == e.c) <;> cases h3 : (c.d == e.d) <;> simp [p1, p2, p3, r1, r2, r3, hq, h1, h2, h3, -beq_iff_eq, -beq_eq_false_iff_ne]
theorem eql_class (c e : Cl) (w : World) : (binOp .eql 47 c.v e.v).run Try.prog w = .ok (.bool (c.eq e)) w := eql_of_equalIn (eqIn_class c e w)
theorem neq_class (c e : Cl) (w : World) : (binOp .neq 47 c.v e.v).run Try.prog w = .ok (.bool (!c.eq e)) w := neq_of_equalIn (eqIn_class c e w)
end Go.Proofs.Ytkfjnllbjlndlaa
