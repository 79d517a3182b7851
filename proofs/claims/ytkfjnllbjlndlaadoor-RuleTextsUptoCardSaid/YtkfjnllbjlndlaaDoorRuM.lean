/- A set of ids that the call keeps: a map[int64]bool. -/
import Derived.Test.YtkfjnllbjlndlaaDoorOwn
import Derived.Test.YtkfjnllbjlndlaaDoorProg
import Derived.Maps.OwnOps
import Derived.Maps.OwnSet
import Derived.Maps.Views
namespace Go.Proofs.YtkfjnllbjlndlaaDoor
open Go.RowKit

theorem keyedI : Maps.Keyed Tryd.prog 2 := Maps.int_keyed Tryd.underlying2
theorem mapU : Tryd.prog.underlying 66 = some (.map 2 4) := Tryd.underlying66
theorem zeroB (w : World) : (zeroValue 4).run Tryd.prog w = .ok (.bool false) w := by kernel_rfl
theorem plainElem_bool_inv {H : Type} {P : Program} {e : TypeId} (he : P.underlying e = some .bool) {v : Value} {z : DataW H × List MemPlace} (h : plainElem P e v = some z) : ∃ b, v = .bool b ∧ z = (.lit (.bool b), []) := by
  unfold plainElem at h
  rw [he] at h
  cases v <;> simp at h
  exact ⟨_, rfl, h.symm⟩

/-- Block b is a map that has just these ids, each told true. -/
def SeenM (W : World) (b n : Nat) (ids : List Int) : Prop :=
  ∃ D : DataW Unit, W.ownsMap Tryd.prog 2 (plainElem Tryd.prog 4) b n D ∧ Maps.IsMap D ∧ ∀ i : Int, D.atKey (.int .i64 i) (.lit (.bool false)) = .lit (.bool (decide (i ∈ ids)))
section
variable {W W' : World} {b n : Nat} {ids : List Int}
theorem SeenM.new (W : World) : SeenM (W.alloc (.map #[] 0)) W.heap.size 0 [] :=
  ⟨.map [], World.ownsMap_made _ _ _ _, ⟨_, rfl⟩, fun i => by simp [DataW.atKey]⟩
theorem SeenM.lt (h : SeenM W b n ids) : b < W.heap.size := by
  obtain ⟨D, h, _⟩ := h
  exact h.lt
theorem SeenM.kept {row : Option Nat} (h : SeenM W b n ids) (hg : W.grownBy W' row) (hne : some b ≠ row) : SeenM W' b n ids := by
  obtain ⟨D, h1, h2, h3⟩ := h
  exact ⟨D, h1.kept hg hne, h2, h3⟩
theorem SeenM.alloc (h : SeenM W b n ids) (o : Obj) : SeenM (W.alloc o) b n ids := h.kept (World.grownBy_alloc W o none) (by simp)
theorem SeenM.below (h : SeenM W b n ids) (hb : Below W.heap.size W W') : SeenM W' b n ids :=
  h.kept (row := none) ⟨hb.os, hb.tape, hb.output, hb.size, fun i hi _ => hb.block i hi⟩ (by simp)
theorem SeenM.drewN (h : SeenM W b n ids) (m : Nat) : SeenM (W.drewN m) b n ids := h.below (below_drewN' (Below.refl _ _) m)
theorem SeenM.setCell (h : SeenM W b n ids) {a : Addr} (ha : b ≠ a.block) (u : Value) : SeenM (W.setCell a u) b n ids := by
  obtain ⟨D, h1, h2, h3⟩ := h
  exact ⟨D, h1.setCell ha u, h2, h3⟩
set_option maxRecDepth 100000 in
theorem SeenM.look (h : SeenM W b n ids) (i : Int) (hi : (Lit.int .i64 i).wf = true) :
    (Instr.lookup 66 (.map (some b)) (.int .i64 i) false).run Tryd.prog W = .ok (.bool (decide (i ∈ ids))) W := by
  obtain ⟨D, h1, h2, h3⟩ := h
  obtain ⟨v, ps, hr, hv⟩ := h1.lookup keyedI mapU (zeroB W) (plainElem_bool (H := Unit) Tryd.underlying4 false) (Maps.keyOf_int_mk Tryd.underlying2 hi)
  obtain ⟨c, rfl, hc⟩ := plainElem_bool_inv Tryd.underlying4 hv
  rw [h3 i] at hc
  injection hc with hc _
  injection hc with hc
  injection hc with hc
  rw [hc]
  exact hr
set_option maxRecDepth 100000 in
theorem SeenM.put (h : SeenM W b n ids) (hn : n < 1000000) (i : Int) (hi : (Lit.int .i64 i).wf = true) :
    ∃ W', (Instr.mapUpdate 66 (.map (some b)) (.int .i64 i) (.bool true)).run Tryd.prog W = .ok () W' ∧ SeenM W' b (n + 1) (ids ++ [i]) ∧ W.grownBy W' (some b) := by
  obtain ⟨D, h1, h2, h3⟩ := h
  obtain ⟨W', hr, ho, hg⟩ := h1.update keyedI mapU (by unfold maxLen; omega) (Maps.keyOf_int_mk Tryd.underlying2 hi) (plainElem_bool (H := Unit) Tryd.underlying4 true)
  refine ⟨W', hr, ⟨_, ho, ho.isMap, fun j => ?_⟩, hg⟩
  by_cases e : j = i
  · subst e
    rw [Maps.atKey_put_same h2 (by exact trivial)]
    simp
  · rw [Maps.atKey_put_other (by intro h; injection h with _ h; exact e h), h3]
    simp [e]
end
theorem wpList_seen_put (w : World) {ops : Array Oper} {rest : List Oper} {o : Oper} {a : Act} {Q : Exit → Act → World → Prop}
    (hg : o.guard = none) (m x v : Operand) (hop : o.op = Op.mapUpdate 66 m x v) (b n : Nat) (ids : List Int) (i : Int)
    (hm : a.eval m = .map (some b)) (hx : a.eval x = .int .i64 i) (hv : a.eval v = .bool true) (h : SeenM w b n ids) (hn : n < 1000000) (hi : (Lit.int .i64 i).wf = true)
    (hK : ∀ w', SeenM w' b (n + 1) (ids ++ [i]) → w.grownBy w' (some b) → wpList Tryd.prog ops Q rest (a.put o.dst undef) w') :
    wpList Tryd.prog ops Q (o :: rest) a w := by
  refine wpList_plain hg fun K' hK' => ?_
  obtain ⟨w', hrun, r1, r2⟩ := h.put hn i hi
  unfold Oper.wp
  simp [execOp, hop, hm, hx, hv, hrun, Result.andThen]
  exact hK' _ _ (hK w' r1 r2)
end Go.Proofs.YtkfjnllbjlndlaaDoor
