/- rule.Parse. -/
import Derived.Test.YtkfjnllbjlndlaaDoorRuQ
import Derived.Test.YtkfjnllbjlndlaaDoorLnB
import Derived.Test.YtkfjnllbjlndlaaDoorLine
import Derived.Maps.OwnIn
namespace Go.Proofs.YtkfjnllbjlndlaaDoor
open Go.RowKit Go.Shelf

attribute [local go_sem] Oper.semAt_some

theorem infoRu : (Tryd.prog.info? 26).map (fun i => (i.zero, i.size, i.bytes)) = some (some (.agg #[.int .i64 0, .bool false, .bool false, .bool false, .bool false, .bool false, .slice none 0 0]), 7, 40) := by kernel_rfl

/-- Rows of two kinds lie apart. -/
theorem own_ne_type {w : World} {b1 b2 : Nat} {e1 e2 : TypeId} {s1 s2 : Nat} {v1 v2 : Value} {n1 n2 : Nat} {x1 x2 : List Value} (h1 : w.ownsRow b1 e1 s1 v1 n1 x1) (h2 : w.ownsRow b2 e2 s2 v2 n2 x2) (hne : e1 ≠ e2) : v1.ownBlock = none ∨ v1.ownBlock ≠ v2.ownBlock := by
  rcases h1.2 with ⟨rfl, _⟩ | ⟨g, cap, cur, rfl, _, hg, _⟩
  · exact .inl rfl
  · rcases h2.2 with ⟨rfl, _⟩ | ⟨g2, cap2, cur2, rfl, _, hg2, _⟩
    · right; intro e; cases e
    · right
      intro e
      have : g = g2 := by simpa [Value.ownBlock] using e
      subst this
      rw [hg] at hg2
      injection hg2 with hg2
      injection hg2 with _ hg2
      exact hne hg2

/-- Rules that the call has laid down: their row, their patterns. -/
structure OwnRs (W : World) (B : Nat) (v : Value) (l : List RV) : Prop where
  own : W.ownsRow B 26 7 v l.length (l.flatMap fun x => x.cs.toList)
  pats : ∀ x ∈ l, W.ownsRow B 5 1 (.slice x.2.1 x.1.p.length x.2.2) x.1.p.length (bcells x.1.p)
  fine : ∀ x ∈ l, x.1.p.length ≤ 1024 ∧ (Lit.int .i64 x.1.id).wf = true

section
variable {W W' : World} {B : Nat} {v : Value} {l : List RV}
theorem OwnRs.nil_ (W : World) (B : Nat) : OwnRs W B (.slice none 0 0) [] := ⟨World.ownsRow_nil _ _ _ _, fun x h => by simp at h, fun x h => by simp at h⟩
theorem own_far {e : TypeId} {size n : Nat} {xs : List Value} {row : Option Nat} (h : W.ownsRow B e size v n xs) (hg : W.grownBy W' row) (hr : ∀ r, row = some r → r < B) : W'.ownsRow B e size v n xs := by
  refine h.kept hg ?_
  rcases hq : v.ownBlock with _ | q
  · exact .inl rfl
  · right
    intro e
    have h1 := own_base h q hq
    have h2 := hr q e.symm
    omega
theorem OwnRs.far {row : Option Nat} (h : OwnRs W B v l) (hg : W.grownBy W' row) (hr : ∀ r, row = some r → r < B) : OwnRs W' B v l :=
  ⟨own_far h.own hg hr, fun x hx => own_far (h.pats x hx) hg hr, h.fine⟩
theorem OwnRs.below (h : OwnRs W B v l) (hb : Below W.heap.size W W') : OwnRs W' B v l := ⟨own_below h.own hb, fun x hx => own_below (h.pats x hx) hb, h.fine⟩
theorem OwnRs.alloc (h : OwnRs W B v l) (o : Obj) : OwnRs (W.alloc o) B v l := h.below ((Below.refl _ _).alloc (Nat.le_refl _) _)
theorem OwnRs.set (h : OwnRs W B v l) {p : Addr} (hp : p.block < B) (u : Value) : OwnRs (W.setCell p u) B v l := ⟨own_set h.own hp u, fun x hx => own_set (h.pats x hx) hp u, h.fine⟩
/-- One rule more. -/
theorem OwnRs.snoc (h : OwnRs W B v l) {x : RV} {v' : Value} (hg : W.grownBy W' v.ownBlock) (ho : W'.ownsRow B 26 7 v' (l.length + 1) ((l.flatMap fun x => x.cs.toList) ++ x.cs.toList))
    (hp : W.ownsRow B 5 1 (.slice x.2.1 x.1.p.length x.2.2) x.1.p.length (bcells x.1.p)) (hf : x.1.p.length ≤ 1024 ∧ (Lit.int .i64 x.1.id).wf = true) : OwnRs W' B v' (l ++ [x]) := by
  refine ⟨?_, fun y hy => ?_, fun y hy => ?_⟩
  · rw [List.length_append, List.length_cons, List.length_nil, List.flatMap_append]
    simpa using ho
  · have hk : W.ownsRow B 5 1 (.slice y.2.1 y.1.p.length y.2.2) y.1.p.length (bcells y.1.p) := by
      rcases List.mem_append.1 hy with hy | hy
      · exact h.pats y hy
      · rw [List.mem_singleton.1 hy]; exact hp
    exact hk.kept hg (own_ne_type hk h.own (by decide))
  · rcases List.mem_append.1 hy with hy | hy
    · exact h.fine y hy
    · rw [List.mem_singleton.1 hy]; exact hf
theorem cs_length (x : RV) : x.cs.toList.length = 7 := rfl
theorem flat_at (l : List RV) : ∀ (k : Nat) (x : RV), l[k]? = some x → ∀ (i : Nat) (u : Value), x.cs[i]? = some u → (l.flatMap fun x => x.cs.toList)[k * 7 + i]? = some u := by
  induction l with
  | nil => intro k x h; simp at h
  | cons y l ih =>
    intro k x h i u hu
    rw [List.flatMap_cons]
    have hi : i < 7 := (Array.getElem?_eq_some_iff.1 hu).1
    cases k with
    | zero =>
      simp only [List.getElem?_cons_zero, Option.some.injEq] at h
      subst h
      rw [List.getElem?_append_left (by rw [cs_length]; omega), Nat.zero_mul, Nat.zero_add]
      simpa using hu
    | succ k =>
      rw [List.getElem?_cons_succ] at h
      rw [List.getElem?_append_right (by rw [cs_length]; omega), cs_length, show (k + 1) * 7 + i - 7 = k * 7 + i by omega]
      exact ih k x h i u hu
theorem OwnRs.reads {A : Option Addr} {c : Nat} (h : OwnRs W B (.slice A l.length c) l) : RdRs W W.heap.size A l where
  rows := fun hn => by
    obtain ⟨_, hr⟩ := own_reads h.own
    obtain ⟨ad, e, hb, hc⟩ := hr (by omega)
    exact ⟨ad, e, hb, fun k x hx i u hu => hc _ _ (flat_at l k x hx i u hu)⟩
  pats := fun x hx => ⟨own_reads (h.pats x hx), own_cap (h.pats x hx), by have := (h.fine x hx).1; omega, (h.fine x hx).2⟩
end

theorem RdB.grownHi {X Y : World} {B b : Nat} {A : Option Addr} {l : List UInt8} {row : Option Nat} (h : RdB X B A l) (hg : X.grownBy Y row) (hB : B ≤ X.heap.size) (hlo : ∀ ad, A = some ad → b ≤ ad.block) (hrow : ∀ r, row = some r → r < b) : RdB Y B A l := by
  refine ⟨h.1, fun hn => ?_⟩
  obtain ⟨ad, e, hb, hc⟩ := h.2 hn
  refine ⟨ad, e, hb, fun j u hu => ?_⟩
  have h1 := hg.block ad.block (by omega) (fun e2 => by have := hrow _ e2.symm; have := hlo ad e; omega)
  exact (World.cell?_of_block (by rw [block_of_add]; exact h1)).trans (hc j u hu)

theorem wpListIn_seen_put {F : Fence} {nF : Nat} (w : World) {ops : Array Oper} {rest : List Oper} {o : Oper} {a : Act} {Q : Exit → Act → World → Prop}
    (hg : o.guard = none) (m x v : Operand) (hop : o.op = Op.mapUpdate 66 m x v) (b n : Nat) (ids : List Int) (i : Int)
    (hm : a.eval m = .map (some b)) (hx : a.eval x = .int .i64 i) (hv : a.eval v = .bool true) (h : SeenM w b n ids) (hn : n < 1000000) (hi : (Lit.int .i64 i).wf = true)
    (hK : ∀ w', SeenM w' b (n + 1) (ids ++ [i]) → w.grownBy w' (some b) → wpListIn F nF Tryd.prog ops Q rest (a.put o.dst undef) w') :
    wpListIn F nF Tryd.prog ops Q (o :: rest) a w := by
  refine wpListIn_plain hg fun K' hK' => ?_
  obtain ⟨w', hrun, r1, r2⟩ := h.put hn i hi
  unfold Oper.wpIn
  refine ⟨by simp [Oper.about, hop], ?_⟩
  rw [Oper.semAt_plain F _ _ (by rw [hop]; intro c hc'; cases hc')]
  simp [execOp, hop, hm, hx, hv, hrun, Result.andThen]
  exact hK' _ _ (hK w' r1 r2)
end Go.Proofs.YtkfjnllbjlndlaaDoor
