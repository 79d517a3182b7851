/- A region that draws its order, by an invariant over what has been done: one proof for each operation, whatever the orders. No program in sight. -/
import Derived.Orders
import Derived.WalkKit
import Derived.Maps.AppendAt
import Derived.Lib.AppendStr
import Derived.Test.YtkfjnllbjlndlaaDoorOwn
namespace Go.Proofs.YtkfjnllbjlndlaaDoor
open Go.RowKit

section
variable {P : Program} {ops : Array Oper} {Q : Exit → Act → World → Prop}

/-- How many are still to be done. -/
def leftN (n : Nat) (listed : Array Bool) : Nat := (List.range n).countP fun i => !listed.getD i false

theorem leftN_set {n i : Nat} {listed : Array Bool} (hn : listed.size = n) (hi : i < n) (hl : listed.getD i false = false) : leftN n (listed.setIfInBounds i true) + 1 = leftN n listed := by
  unfold leftN
  have key : ∀ m, m ≤ n → ((List.range m).countP fun j => !(listed.setIfInBounds i true).getD j false) + (if i < m then 1 else 0) = (List.range m).countP fun j => !listed.getD j false := by
    intro m
    induction m with
    | zero => intro _; simp
    | succ m ih =>
      intro hm
      have h := ih (by omega)
      rw [List.range_succ, List.countP_append, List.countP_append, ← h]
      simp only [List.countP_cons, List.countP_nil]
      by_cases e : i = m
      · subst e
        have h1 : (listed.setIfInBounds i true).getD i false = true := by simp [Array.getD_eq_getD_getElem?, hn, hi]
        rw [h1, hl]
        simp
      · have h1 : (listed.setIfInBounds i true).getD m false = listed.getD m false := by
          simp only [Array.getD_eq_getD_getElem?]
          rw [Array.getElem?_setIfInBounds_ne e]
        rw [h1]
        by_cases h2 : i < m
        · have h3 : i < m + 1 := by omega
          simp only [if_pos h2, if_pos h3]; omega
        · have h3 : ¬ i < m + 1 := by omega
          simp only [if_neg h2, if_neg h3]; omega
  have := key n (Nat.le_refl _)
  rw [if_pos hi] at this
  exact this

/-- Each edge leads back. -/
def backB (md : Region.Mode) (ops : Array Oper) : Bool :=
  (List.range ops.size).all fun i => ((ops[i]?).map fun o => o.after.all fun e => !Region.binds md e || decide (e.on < i)).getD true

theorem all_done {md : Region.Mode} {listed : Array Bool} (hn : listed.size = ops.size) (hb : backB md ops = true) (hr : Region.ready md ops listed = []) : ∀ i, i < ops.size → listed.getD i false = true := by
  intro i
  induction i using Nat.strongRecOn with
  | ind i ih =>
    intro hi
    cases h : listed.getD i false with
    | true => rfl
    | false =>
      exfalso
      have hlt : i < listed.size := by omega
      have hl : listed.getD i true = false := by
        simp only [Array.getD_eq_getD_getElem?, Array.getElem?_eq_getElem hlt, Option.getD_some] at h ⊢
        exact h
      have ho : ops[i]? = some ops[i] := Array.getElem?_eq_getElem hi
      have hbi := List.all_eq_true.1 hb i (List.mem_range.2 hi)
      rw [ho] at hbi
      simp only [Option.map_some, Option.getD_some] at hbi
      have hm : i ∈ Region.ready md ops listed := by
        unfold Region.ready
        rw [List.mem_filter]
        refine ⟨List.mem_range.2 hi, ?_⟩
        rw [hl, ho]
        simp only [Bool.not_false, Option.map_some, Option.getD_some, Bool.true_and]
        rw [Array.all_eq_true'] at hbi ⊢
        intro e he
        have h1 := hbi e he
        rw [Bool.or_eq_true] at h1 ⊢
        rcases h1 with h1 | h1
        · exact .inl h1
        · exact .inr (ih e.on (of_decide_eq_true h1) (by have := of_decide_eq_true h1; omega))
      rw [hr] at hm
      cases hm

theorem wpAny_inv {md : Region.Mode} {Inv : (Nat → Bool) → Act → World → Prop} (hb : backB md ops = true)
    (step : ∀ (i : Nat) (o : Oper) (L : Nat → Bool) (a : Act) (w : World), ops[i]? = some o → L i = false → (∀ e ∈ o.after, Region.binds md e = true → L e.on = true) → Inv L a w →
      if Region.wanted o (yielded ops a.tmps) then o.wp P a w (fun a' w' => Inv (fun j => j == i || L j) a' w') Q else Inv (fun j => j == i || L j) (a.put o.dst undef) w)
    (done : ∀ (L : Nat → Bool) (a : Act) (w : World), (∀ i, i < ops.size → L i = true) → Inv L a w → Q .normal a w) :
    ∀ (fuel : Nat) (listed : Array Bool) (a : Act) (w : World), listed.size = ops.size → leftN ops.size listed ≤ fuel → Inv (fun j => listed.getD j false) a w → wpAny P md ops Q fuel listed a w := by
  intro fuel
  induction fuel with
  | zero =>
    intro listed a w hn hl hi
    have hall : ∀ i, i < ops.size → listed.getD i false = true := by
      intro i hlt
      cases h : listed.getD i false with
      | true => rfl
      | false => have := leftN_set hn hlt h; omega
    have hr : Region.ready md ops listed = [] := by
      unfold Region.ready
      rw [List.filter_eq_nil_iff]
      intro i hi
      have hlt := List.mem_range.1 hi
      have h := hall i hlt
      have : listed.getD i true = true := by
        simp only [Array.getD_eq_getD_getElem?, Array.getElem?_eq_getElem (show i < listed.size by omega), Option.getD_some] at h ⊢
        exact h
      rw [this]
      simp
    exact ⟨hr, done _ a w hall hi⟩
  | succ fuel ih =>
    intro listed a w hn hl hi
    refine ⟨fun hr => done _ a w (all_done hn hb hr) hi, fun i him => ?_⟩
    unfold Region.ready at him
    rw [List.mem_filter] at him
    obtain ⟨h1, h2⟩ := him
    have hlt := List.mem_range.1 h1
    have ho : ops[i]? = some ops[i] := Array.getElem?_eq_getElem hlt
    rw [ho, Bool.and_eq_true] at h2
    simp only [Option.map_some, Option.getD_some] at h2
    obtain ⟨h3, h4⟩ := h2
    have hf : listed.getD i false = false := by
      simp only [Array.getD_eq_getD_getElem?, Array.getElem?_eq_getElem (show i < listed.size by omega), Option.getD_some, Bool.not_eq_true'] at h3 ⊢
      exact h3
    have hs := step i ops[i] (fun j => listed.getD j false) a w ho hf (by
      intro e he hbd
      rw [Array.all_eq_true'] at h4
      have h5 := h4 e he
      rw [hbd] at h5
      simpa using h5) hi
    have hset : (fun j => (listed.setIfInBounds i true).getD j false) = fun j => j == i || listed.getD j false := by
      funext j
      by_cases e : j = i
      · subst e
        simp [Array.getD_eq_getD_getElem?, show j < listed.size by omega]
      · have : (j == i) = false := by simpa using e
        rw [this, Bool.false_or]
        simp only [Array.getD_eq_getD_getElem?]
        rw [Array.getElem?_setIfInBounds_ne (fun h => e h.symm)]
    have next : ∀ a' w', Inv (fun j => j == i || listed.getD j false) a' w' → wpAny P md ops Q fuel (listed.setIfInBounds i true) a' w' := by
      intro a' w' h
      refine ih _ a' w' (by simp [hn]) (by have := leftN_set hn hlt hf; omega) ?_
      rw [hset]
      exact h
    unfold wpOp
    rw [ho]
    simp only
    split
    · rename_i hw
      rw [if_pos hw] at hs
      exact .inl (Oper.wp_mono next hs)
    · rename_i hw
      rw [if_neg hw] at hs
      exact next _ _ hs

/-- A region that draws its order: an invariant over what has been done. -/
theorem wp_region_inv {id : Nat} {a : Act} {w : World} (hm : P.follows .mixedOrders = true) (hb : backB .any ops = true) (Inv : (Nat → Bool) → Act → World → Prop) (h0 : Inv (fun _ => false) a w.drew)
    (step : ∀ (i : Nat) (o : Oper) (L : Nat → Bool) (a : Act) (w : World), ops[i]? = some o → L i = false → (∀ e ∈ o.after, Region.binds .any e = true → L e.on = true) → Inv L a w →
      if Region.wanted o (yielded ops a.tmps) then o.wp P a w (fun a' w' => Inv (fun j => j == i || L j) a' w') Q else Inv (fun j => j == i || L j) (a.put o.dst undef) w)
    (done : ∀ (L : Nat → Bool) (a : Act) (w : World), (∀ i, i < ops.size → L i = true) → Inv L a w → Q .normal a w) : (Code.region id ops true).wp P Q a w := by
  refine wp_region_any hm (wpAny_inv hb step done ops.size _ a _ (by simp) ?_ ?_)
  · unfold leftN
    exact Nat.le_trans List.countP_le_length (by simp)
  · have : (fun j => (Array.replicate ops.size false).getD j false) = fun _ => false := by
      funext j
      simp [Array.getD_eq_getD_getElem?, Array.getElem?_replicate]
      split <;> rfl
    rw [this]
    exact h0
/-- The post behind a letter. -/
theorem of_all {p : Act → World → Prop} {o : Oper} {a : Act} {w : World} (h : ∀ K : Act → World → Prop, (∀ a w, p a w → K a w) → o.wp P a w K Q) : o.wp P a w p Q := h p (fun _ _ h => h)
/-- append of cells, at the operation. -/
theorem wp_append_cells {o : Oper} {a : Act} {w : World} {K : Act → World → Prop} (s x : Operand) (t : TypeId)
    (ho : o.op = .call { callee := .builtin .append, args := #[s, x], argTypes := #[t, t] })
    (base : Nat) (e : TypeId) (i : TypeInfo) (z : Value) (size bytes : Nat) (ht : P.underlying t = some (.slice e)) (hi : P.info? e = some i) (hz : i.zero = some z)
    (hsize : i.size = size) (hby : i.bytes = bytes) (hzs : z.cells.size = size) (hsz : 0 < size)
    (v : Value) (n : Nat) (xs : List Value) (hs : a.eval s = v) (hown : w.ownsRow base e size v n xs)
    (ad : Addr) (m c : Nat) (news : List Value) (hx : a.eval x = .slice (some ad) m c) (hl : news.length = m * size) (hnews : ∀ j u, news[j]? = some u → w.cell? (ad.add j) = some u) (h1 : ∀ u ∈ news, u.oneCell' = true)
    (h63 : n + m ≤ maxLen) (hbytes : (n + m) * bytes ≤ 140737488355328) (hbase : base ≤ w.heap.size)
    (h : ∀ v' w', w'.ownsRow base e size v' (n + m) (xs ++ news) → w.grownBy w' v.ownBlock → K (a.put o.dst v') w') : o.wp P a w K Q := by
  obtain ⟨v', w', hr, h2, h3, _⟩ := run_append_own (P := P) w base t o.type e i z size bytes ht hi hz hsize hby hzs hsz v n xs hown ad m c news hl hnews h1 h63 hbytes hbase
  unfold Oper.wp execOp
  simp only [ho, resolve, invoke, builtin, Sem.run_bind, Sem.run_pure, Result.andThen_ok, List.map_toArray, List.map_cons, List.map_nil, hs, hx, hr]
  exact h v' w' h2 h3
/-- append of a string's bytes, at the operation. -/
theorem wp_append_text {o : Oper} {a : Act} {w : World} {K : Act → World → Prop} (s x : Operand) (t u : TypeId)
    (ho : o.op = .call { callee := .builtin .append, args := #[s, x], argTypes := #[t, u] })
    (base : Nat) (e : TypeId) (i : TypeInfo) (ht : P.underlying t = some (.slice e)) (hu : P.underlying u = some .string) (hi : P.info? e = some i) (hz : i.zero = some (.int .u8 0))
    (hsize : i.size = 1) (hby : i.bytes = 1)
    (v : Value) (n : Nat) (xs : List Value) (hs : a.eval s = v) (hown : w.ownsRow base e 1 v n xs) (b : ByteArray) (hx : a.eval x = .string b)
    (h63 : n + b.size ≤ maxLen) (hbytes : n + b.size ≤ 140737488355328) (hbase : base ≤ w.heap.size)
    (h : ∀ v' w', w'.ownsRow base e 1 v' (n + b.size) (xs ++ Lib.strCells b) → w.grownBy w' v.ownBlock → K (a.put o.dst v') w') : o.wp P a w K Q := by
  obtain ⟨v', w', hr, h2, h3, _⟩ := Lib.run_append_own_string (P := P) w base t u o.type e i ht hu hi hz hsize hby v n xs hown b h63 hbytes hbase
  unfold Oper.wp execOp
  simp only [ho, resolve, invoke, builtin, Sem.run_bind, Sem.run_pure, Result.andThen_ok, List.map_toArray, List.map_cons, List.map_nil, hs, hx, hr]
  exact h v' w' h2 h3
/-- append of a slice of bytes that reads as a list, nil let in. -/
theorem wpList_append_rd {ops : Array Oper} {rest : List Oper} {o : Oper} {a : Act} {w : World} (hgd : o.guard = none) (s x : Operand) (t : TypeId)
    (ho : o.op = .call { callee := .builtin .append, args := #[s, x], argTypes := #[t, t] })
    (base : Nat) (e : TypeId) (i : TypeInfo) (ht : P.underlying t = some (.slice e)) (hi : P.info? e = some i) (hz : i.zero = some (.int .u8 0))
    (hsize : i.size = 1) (hby : i.bytes = 1)
    (v : Value) (n : Nat) (xs : List Value) (hs : a.eval s = v) (hown : w.ownsRow base e 1 v n xs)
    (A : Option Addr) (c B : Nat) (p : List UInt8) (hx : a.eval x = .slice A p.length c) (hr : RdB w B A p)
    (h63 : n + p.length ≤ 140737488355328) (hbase : base ≤ w.heap.size)
    (h : ∀ v' w', w'.ownsRow base e 1 v' (n + p.length) (xs ++ bcells p) → w.grownBy w' v.ownBlock → wpList P ops Q rest (a.put o.dst v') w') : wpList P ops Q (o :: rest) a w := by
  rcases A with _ | ad
  · have hz : p.length = 0 := by
      rcases Nat.eq_zero_or_pos p.length with h0 | h0
      · exact h0
      · obtain ⟨ad, e, _⟩ := hr.2 h0
        cases e
    obtain rfl : p = [] := List.eq_nil_of_length_eq_zero hz
    have hrun : (Builtin.append_ #[t, t] o.type #[v, .slice none 0 c]).run P w = .ok v w := by
      rcases hown.2 with ⟨rfl, rfl⟩ | ⟨g, cap, cur, rfl, _, _, hnc, _⟩
      · simp [Builtin.append_, run_underlying ht, sizeOf, typeInfo, hi, Builtin.lenOf, Builtin.firstCells]
      · simp [Builtin.append_, run_underlying ht, sizeOf, typeInfo, hi, Builtin.lenOf, Builtin.firstCells, hnc, storeCells]
    refine wpList_plain hgd fun _ hK => ?_
    have hx' : a.eval x = .slice none 0 c := hx
    unfold Oper.wp execOp
    simp only [ho, resolve, invoke, builtin, Sem.run_bind, Sem.run_pure, Result.andThen_ok, List.map_toArray, List.map_cons, List.map_nil, hs, hx', hrun]
    refine hK _ _ (h v w ?_ (World.grownBy.refl _ _))
    simpa [bcells] using hown
  · refine wpList_append_own _ hgd s x t ho base e i (.int .u8 0) 1 1 ht hi hz hsize hby rfl (by decide) v n xs hs hown ad p.length c (bcells p) hx (by simp [bcells]) ?_ ?_ (by unfold maxLen; omega) (by omega) hbase fun v' w' h1 h2 _ => h v' w' h1 h2
    · intro j u hj
      have hjn : j < p.length := by
        have := (List.getElem?_eq_some_iff.1 hj).1
        simpa [bcells] using this
      obtain ⟨ad', e, _, hc⟩ := hr.2 (by omega)
      injection e with e
      subst e
      exact hc j u hj
    · intro u hu
      obtain ⟨x, _, rfl⟩ := List.mem_map.1 hu
      rfl
/-- A row of more cells than a block has lies elsewhere. -/
theorem own_ne_small {w : World} {base n g : Nat} {e t : TypeId} {v : Value} {xs : List Value} {cs : Array Value} (h : w.ownsRow base e 1 v n xs) (hb : Bk w g t cs) (hs : cs.size < n) : v.ownBlock ≠ some g := by
  rcases h.2 with ⟨rfl, _⟩ | ⟨g', cap, cur, rfl, _, hg, hn, _, hc, _⟩
  · intro e; cases e
  · intro e
    have : g' = g := by simpa [Value.ownBlock] using e
    subst this
    unfold Bk at hb
    rw [hg] at hb
    injection hb with hb
    injection hb with hb
    subst hb
    omega
theorem own_ne_new {w : World} {base n g : Nat} {e : TypeId} {size : Nat} {v : Value} {xs : List Value} (h : w.ownsRow base e size v n xs) (hg : w.heap.size ≤ g) : v.ownBlock ≠ some g := by
  intro e
  have := (h.lt g e).2
  omega
end
end Go.Proofs.YtkfjnllbjlndlaaDoor
