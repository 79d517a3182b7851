/- '==' of two tokens; slices.Equal of tokens. -/
import Derived.Test.YtkfjnllbjlndlaaClsQ
import Derived.Test.YtkfjnllbjlndlaaRcI
namespace Go.Proofs.Ytkfjnllbjlndlaa
open Go.RowKit

theorem eql_of_equalIn4 {P : Program} {xs ys : Array Value} {r : Bool} {w : World} {t : TypeId} (h : ∀ d, (Op.equalIn (d + 4) t (.agg xs) (.agg ys)).run P w = .ok r w) : (binOp .eql t (.agg xs) (.agg ys)).run P w = .ok (.bool r) w := by
  have h' := h 9996
  simp only [Nat.reduceAdd] at h'
  simp only [binOp]
  simp [Op.equal, Op.maxDepth, h']
theorem neq_of_equalIn4 {P : Program} {xs ys : Array Value} {r : Bool} {w : World} {t : TypeId} (h : ∀ d, (Op.equalIn (d + 4) t (.agg xs) (.agg ys)).run P w = .ok r w) : (binOp .neq t (.agg xs) (.agg ys)).run P w = .ok (.bool (!r)) w := by
  have h' := h 9996
  simp only [Nat.reduceAdd] at h'
  simp only [binOp]
  simp [Op.equal, Op.maxDepth, h']
def Tok.eq (t u : Tok) : Bool := t.kind == u.kind && (t.byte == u.byte && (t.cls.eq u.cls && (t.not_ == u.not_ && (t.least == u.least && (t.most == u.most && (t.lazy == u.lazy && (t.at_ == u.at_ && true)))))))
theorem Tok.eq_iff (t u : Tok) : t.eq u = true ↔ t = u := by
  obtain ⟨a, b, c, d, e, f, g, h⟩ := t
  obtain ⟨a', b', c', d', e', f', g', h'⟩ := u
  simp [Tok.eq, Cl.eq_iff]
theorem eqIn_tok (t u : Tok) (w : World) (d : Nat) : (Op.equalIn (d + 4) 49 t.v u.v).run Try.prog w = .ok (t.eq u) w := by
  have hu := Try.underlying49
  have hq1 : ∀ (a b : Int), (Op.equalIn (d + 3) 3 (.int .i64 a) (.int .i64 b)).run Try.prog w = .ok (a == b) w := by intro a b; go_simp
  have hq2 : ∀ (a b : Int), (Op.equalIn (d + 3) 5 (.int .u8 a) (.int .u8 b)).run Try.prog w = .ok (a == b) w := by intro a b; go_simp
  have hq3 : ∀ (a b : Bool), (Op.equalIn (d + 3) 4 (.bool a) (.bool b)).run Try.prog w = .ok (a == b) w := by intro a b; go_simp
  unfold Tok.v Tok.eq
  refine agg_eq hu (by kernel_rfl) ?_
  refine fields_cons rfl (by go_simp) (by go_simp) (hq1 _ _) ?_
  refine fields_cons rfl (by go_simp) (by go_simp) (hq2 _ _) ?_
  refine fields_cons rfl (a := t.cls.v) (b := u.cls.v) (by unfold Cl.v; go_simp) (by unfold Cl.v; go_simp) (eqIn_class t.cls u.cls w d) ?_
  refine fields_cons rfl (by go_simp) (by go_simp) (hq3 _ _) ?_
  refine fields_cons rfl (by go_simp) (by go_simp) (hq1 _ _) ?_
  refine fields_cons rfl (by go_simp) (by go_simp) (hq1 _ _) ?_
  refine fields_cons rfl (by go_simp) (by go_simp) (hq3 _ _) ?_
  refine fields_cons rfl (by go_simp) (by go_simp) (hq1 _ _) ?_
  exact fields_nil
theorem eql_tok (t u : Tok) (w : World) : (binOp .eql 49 t.v u.v).run Try.prog w = .ok (.bool (t.eq u)) w := eql_of_equalIn4 (eqIn_tok t u w)
theorem neq_tok (t u : Tok) (w : World) : (binOp .neq 49 t.v u.v).run Try.prog w = .ok (.bool (!t.eq u)) w := neq_of_equalIn4 (eqIn_tok t u w)

theorem tcells_get (l : List Tok) (k i : Nat) (hk : k < l.length) (hi : i < 11) : (tcells l)[k * 11 + i]? = (l[k]).list[i]? := by
  induction l generalizing k with
  | nil => simp at hk
  | cons t l ih =>
    have hl : t.list.length = 11 := rfl
    simp only [tcells, List.flatMap_cons]
    cases k with
    | zero => rw [List.getElem?_append_left (by omega)]; simp
    | succ k =>
      rw [List.getElem?_append_right (by omega)]
      have := ih k (by simpa using hk)
      rw [show (k + 1) * 11 + i - t.list.length = k * 11 + i from by omega]
      simpa [tcells] using this
theorem tcells_length (l : List Tok) : (tcells l).length = l.length * 11 := by
  induction l with
  | nil => rfl
  | cons t l ih => simp only [tcells, List.flatMap_cons, List.length_append, List.length_cons] at ih ⊢; rw [ih, show t.list.length = 11 from rfl]; omega

theorem tok_at (w : World) (g : Nat) (l : List Tok) (k : Nat) (t : Tok) (hk : k < l.length) (ht : l[k] = t) (h : ∀ j u, (tcells l)[j]? = some u → w.cell? ⟨g, j, none⟩ = some u) :
    w.cell? ⟨g, k * 11, none⟩ = some (.int .i64 t.kind) ∧ w.cell? ⟨g, k * 11 + 1, none⟩ = some (.int .u8 t.byte) ∧ w.cell? ⟨g, k * 11 + 2, none⟩ = some (.int .u64 t.cls.a) ∧ w.cell? ⟨g, k * 11 + 3, none⟩ = some (.int .u64 t.cls.b) ∧ w.cell? ⟨g, k * 11 + 4, none⟩ = some (.int .u64 t.cls.c) ∧ w.cell? ⟨g, k * 11 + 5, none⟩ = some (.int .u64 t.cls.d) ∧ w.cell? ⟨g, k * 11 + 6, none⟩ = some (.bool t.not_) ∧ w.cell? ⟨g, k * 11 + 7, none⟩ = some (.int .i64 t.least) ∧ w.cell? ⟨g, k * 11 + 8, none⟩ = some (.int .i64 t.most) ∧ w.cell? ⟨g, k * 11 + 9, none⟩ = some (.bool t.lazy) ∧ w.cell? ⟨g, k * 11 + 10, none⟩ = some (.int .i64 t.at_) := by
  have r : ∀ i u, i < 11 → t.list[i]? = some u → w.cell? ⟨g, k * 11 + i, none⟩ = some u := fun i u hi hu => h _ u (by rw [tcells_get l k i hk hi, ht]; exact hu)
  exact ⟨r 0 _ (by decide) rfl, r 1 _ (by decide) rfl, r 2 _ (by decide) rfl, r 3 _ (by decide) rfl, r 4 _ (by decide) rfl, r 5 _ (by decide) rfl, r 6 _ (by decide) rfl, r 7 _ (by decide) rfl, r 8 _ (by decide) rfl, r 9 _ (by decide) rfl, r 10 _ (by decide) rfl⟩

set_option maxRecDepth 100000 in
set_option maxHeartbeats 1000000 in
theorem equal_same (w : World) (g1 g2 c1 c2 : Nat) (l : List Tok) (hn : l.length ≤ 1000000) (h1 : ∀ j u, (tcells l)[j]? = some u → w.cell? ⟨g1, j, none⟩ = some u) (h2 : ∀ j u, (tcells l)[j]? = some u → w.cell? ⟨g2, j, none⟩ = some u) :
    Calls Try.prog 21 #[.slice (some ⟨g1, 0, none⟩) l.length c1, .slice (some ⟨g2, 0, none⟩) l.length c2] w fun e w' => e = .returned (.bool true) ∧ ∃ m, w' = w.drewN m := by
  have H1 := Lib.hid h1
  have H2 := Lib.hid h2
  clear h1 h2
  go_enter Try.func21, Try.ntmps21
  go_wp2
  go_loopw [13] (fun q wr => ∃ (k m : Nat), q = .int .i64 k ∧ k ≤ l.length ∧ wr = w.drewN m) (fun q _ => l.length - (intOf q).toNat)
  case atStart => exact ⟨0, 0, rfl, by omega, rfl⟩
  case round =>
    obtain ⟨k, m, rfl, hk, rfl⟩ := hrel
    by_cases hlt : k < l.length
    · have hi1 : (k : Int) < (l.length : Int) := by omega
      have hi0 : (0 : Int) ≤ (k : Int) := by omega
      obtain ⟨t, ht⟩ : ∃ t, l[k] = t := ⟨_, rfl⟩
      obtain ⟨p0, p1, p2, p3, p4, p5, p6, p7, p8, p9, p10⟩ := tok_at w g1 l k t hlt ht H1.out
      obtain ⟨r0, r1, r2, r3, r4, r5, r6, r7, r8, r9, r10⟩ := tok_at w g2 l k t hlt ht H2.out
      obtain ⟨k1, hk1⟩ : ∃ k1, k1 = k + 1 := ⟨_, rfl⟩
      have hv1 : (k : Int) + 1 = (k1 : Int) := by omega
      have HK := Lib.hid hk1
      clear ht hk1
      have hq := fun (W : World) => neq_tok t t W
      simp only [Tok.v, (Tok.eq_iff t t).2 rfl] at hq
      go_wp2
      go_quiet (fail)
      go_wp2
      exact ⟨⟨k1, m + nq, rfl, by have := HK.out; omega, by simp only [World.drewN]⟩, by simp only [intOf]; have := HK.out; omega⟩
    · have hn2 : ¬ (k : Int) < (l.length : Int) := by omega
      go_wp2
      go_ret
      exact ⟨rfl, m, rfl⟩

theorem equal_nil (w : World) (A1 A2 : Option Addr) (c1 c2 : Nat) :
    Calls Try.prog 21 #[.slice A1 0 c1, .slice A2 0 c2] w fun e w' => e = .returned (.bool true) ∧ ∃ m, w' = w.drewN m := by
  go_enter Try.func21, Try.ntmps21
  go_wp2
  go_loopw [13] (fun q wr => q = .int .i64 0 ∧ wr = w) (fun q _ => 0)
  case atStart => exact ⟨rfl, rfl⟩
  case round =>
    obtain ⟨rfl, rfl⟩ := hrel
    go_wp2
    go_ret
    exact ⟨rfl, 0, rfl⟩

theorem add_off (g j : Nat) : (⟨g, 0, none⟩ : Addr).add j = ⟨g, j, none⟩ := by unfold Addr.add; split <;> simp_all
/-- Two rows of the same tokens are equal. -/
theorem equal_own (w : World) (b1 b2 : Nat) (v1 v2 : Value) (l : List Tok) (hn : l.length ≤ 1000000) (h1 : w.ownsRow b1 49 11 v1 l.length (tcells l)) (h2 : w.ownsRow b2 49 11 v2 l.length (tcells l)) :
    Calls Try.prog 21 #[v1, v2] w fun e w' => e = .returned (.bool true) ∧ ∃ m, w' = w.drewN m := by
  rcases Nat.eq_zero_or_pos l.length with h0 | h0
  · obtain ⟨A1, c1, rfl⟩ := own_slice h1
    obtain ⟨A2, c2, rfl⟩ := own_slice h2
    rw [h0]
    exact equal_nil w A1 A2 c1 c2
  · obtain ⟨g1, c1, rfl, _, _⟩ := h1.form h0
    obtain ⟨g2, c2, rfl, _, _⟩ := h2.form h0
    exact equal_same w g1 g2 c1 c2 l hn (fun j u hj => add_off g1 j ▸ h1.cells (g := g1) rfl j u hj) (fun j u hj => add_off g2 j ▸ h2.cells (g := g2) rfl j u hj)
end Go.Proofs.Ytkfjnllbjlndlaa
