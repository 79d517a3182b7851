/- '==' of two lines of a text; slices.Equal of lines. -/
import Derived.Test.YtkfjnllbjlndlaaLnT
import Derived.Test.YtkfjnllbjlndlaaEq
namespace Go.Proofs.Ytkfjnllbjlndlaa
open Go.RowKit

def Ln.v (x : Ln) : Value := .agg #[.int .i64 x.1, .string ⟨x.2.toArray⟩]
set_option maxRecDepth 100000 in
theorem eqIn_line (x : Ln) (w : World) (d : Nat) : (Op.equalIn (d + 3) 34 (Ln.v x) (Ln.v x)).run Try.prog w = .ok true w := by
  have hu := Try.underlying34
  have hq1 : ∀ (a : Int), (Op.equalIn (d + 2) 3 (.int .i64 a) (.int .i64 a)).run Try.prog w = .ok true w := by intro a; go_simp
  have hq2 : ∀ (a : ByteArray), (Op.equalIn (d + 2) 9 (.string a) (.string a)).run Try.prog w = .ok true w := by intro a; go_simp
  unfold Ln.v
  show _ = Result.ok (true && (true && true)) w
  refine agg_eq hu (by kernel_rfl) ?_
  refine fields_cons (a := .int .i64 x.1) (b := .int .i64 x.1) rfl (by go_simp) (by go_simp) (hq1 _) ?_
  refine fields_cons (a := .string ⟨x.2.toArray⟩) (b := .string ⟨x.2.toArray⟩) rfl (by go_simp) (by go_simp) (hq2 _) ?_
  exact fields_nil
theorem neq_line (x : Ln) (w : World) : (binOp .neq 34 (Ln.v x) (Ln.v x)).run Try.prog w = .ok (.bool false) w := neq_of_equalIn (eqIn_line x w)

theorem lcells_get (l : List Ln) (k i : Nat) (hk : k < l.length) (hi : i < 2) : (lcells l)[k * 2 + i]? = (lcell l[k])[i]? := by
  induction l generalizing k with
  | nil => simp at hk
  | cons t l ih =>
    have hl : (lcell t).length = 2 := rfl
    simp only [lcells, List.flatMap_cons]
    cases k with
    | zero => rw [List.getElem?_append_left (by omega)]; simp
    | succ k =>
      rw [List.getElem?_append_right (by omega)]
      have := ih k (by simpa using hk)
      rw [show (k + 1) * 2 + i - (lcell t).length = k * 2 + i from by omega]
      simpa [lcells] using this
theorem lcells_length (l : List Ln) : (lcells l).length = l.length * 2 := by
  induction l with
  | nil => rfl
  | cons t l ih => simp only [lcells, List.flatMap_cons, List.length_append, List.length_cons] at ih ⊢; rw [ih, show (lcell t).length = 2 from rfl]; omega
theorem lcells_take (l : List Ln) (m : Nat) : lcells (l.take m) = (lcells l).take (m * 2) := by
  induction l generalizing m with
  | nil => simp [lcells]
  | cons t l ih =>
    cases m with
    | zero => simp [lcells]
    | succ m =>
      have h := ih m
      simp only [lcells, List.take_succ_cons, List.flatMap_cons] at h ⊢
      rw [h, show (m + 1) * 2 = (lcell t).length + m * 2 from by rw [show (lcell t).length = 2 from rfl]; omega, List.take_length_add_append]

theorem line_cells (w : World) (g : Nat) (l : List Ln) (k : Nat) (t : Ln) (hk : k < l.length) (ht : l[k] = t) (h : ∀ j u, (lcells l)[j]? = some u → w.cell? ⟨g, j, none⟩ = some u) :
    w.cell? ⟨g, k * 2, none⟩ = some (.int .i64 t.1) ∧ w.cell? ⟨g, k * 2 + 1, none⟩ = some (.string ⟨t.2.toArray⟩) := by
  have r : ∀ i u, i < 2 → (lcell t)[i]? = some u → w.cell? ⟨g, k * 2 + i, none⟩ = some u := fun i u hi hu => h _ u (by rw [lcells_get l k i hk hi, ht]; exact hu)
  exact ⟨r 0 _ (by decide) rfl, r 1 _ (by decide) rfl⟩

set_option maxRecDepth 100000 in
set_option maxHeartbeats 1000000 in
theorem equalL_same (w : World) (g1 g2 c1 c2 : Nat) (l : List Ln) (hn : l.length ≤ 2000000) (h1 : ∀ j u, (lcells l)[j]? = some u → w.cell? ⟨g1, j, none⟩ = some u) (h2 : ∀ j u, (lcells l)[j]? = some u → w.cell? ⟨g2, j, none⟩ = some u) :
    Calls Try.prog 14 #[.slice (some ⟨g1, 0, none⟩) l.length c1, .slice (some ⟨g2, 0, none⟩) l.length c2] w fun e w' => e = .returned (.bool true) ∧ ∃ m, w' = w.drewN m := by
  have H1 := Lib.hid h1
  have H2 := Lib.hid h2
  clear h1 h2
  go_enter Try.func14, Try.ntmps14
  go_wp2
  go_loopw [13] (fun q wr => ∃ (k m : Nat), q = .int .i64 k ∧ k ≤ l.length ∧ wr = w.drewN m) (fun q _ => l.length - (intOf q).toNat)
  case atStart => exact ⟨0, 0, rfl, by omega, rfl⟩
  case round =>
    obtain ⟨k, m, rfl, hk, rfl⟩ := hrel
    by_cases hlt : k < l.length
    · have hi1 : (k : Int) < (l.length : Int) := by omega
      have hi0 : (0 : Int) ≤ (k : Int) := by omega
      obtain ⟨t, ht⟩ : ∃ t, l[k] = t := ⟨_, rfl⟩
      obtain ⟨p0, p1⟩ := line_cells w g1 l k t hlt ht H1.out
      obtain ⟨r0, r1⟩ := line_cells w g2 l k t hlt ht H2.out
      obtain ⟨k1, hk1⟩ : ∃ k1, k1 = k + 1 := ⟨_, rfl⟩
      have hv1 : (k : Int) + 1 = (k1 : Int) := by omega
      have HK := Lib.hid hk1
      clear ht hk1
      have hq := fun (W : World) => neq_line t W
      simp only [Ln.v] at hq
      go_wp2
      go_quiet (fail)
      go_wp2
      exact ⟨⟨k1, m + nq, rfl, by have := HK.out; omega, by simp only [World.drewN]⟩, by simp only [intOf]; have := HK.out; omega⟩
    · have hn2 : ¬ (k : Int) < (l.length : Int) := by omega
      go_wp2
      go_ret
      exact ⟨rfl, m, rfl⟩

theorem equalL_nil (w : World) (A1 A2 : Option Addr) (c1 c2 : Nat) :
    Calls Try.prog 14 #[.slice A1 0 c1, .slice A2 0 c2] w fun e w' => e = .returned (.bool true) ∧ ∃ m, w' = w.drewN m := by
  go_enter Try.func14, Try.ntmps14
  go_wp2
  go_loopw [13] (fun q wr => q = .int .i64 0 ∧ wr = w) (fun q _ => 0)
  case atStart => exact ⟨rfl, rfl⟩
  case round =>
    obtain ⟨rfl, rfl⟩ := hrel
    go_wp2
    go_ret
    exact ⟨rfl, 0, rfl⟩

theorem addL_off (g j : Nat) : (⟨g, 0, none⟩ : Addr).add j = ⟨g, j, none⟩ := by unfold Addr.add; split <;> simp_all
/-- A row of lines, and the beginning of another's: equal where the lines are the same. -/
theorem equalL_take (w : World) (b1 b2 : Nat) (v1 : Value) (A2 : Option Addr) (c2 n : Nat) (l : List Ln) (m : Nat) (hn : l.length ≤ 2000000) (h1 : w.ownsRow b1 34 2 v1 (l.take m).length (lcells (l.take m))) (h2 : w.ownsRow b2 34 2 (.slice A2 l.length c2) l.length (lcells l)) (hq : n = (l.take m).length) :
    Calls Try.prog 14 #[v1, .slice A2 n c2] w fun e w' => e = .returned (.bool true) ∧ ∃ m, w' = w.drewN m := by
  subst hq
  rcases Nat.eq_zero_or_pos (l.take m).length with h0 | h0
  · obtain ⟨A1, c1, rfl⟩ := own_slice h1
    rw [h0]
    exact equalL_nil w A1 A2 _ c2
  · have hl : 0 < l.length := by rw [List.length_take] at h0; omega
    obtain ⟨g1, c1, rfl, _, _⟩ := h1.form h0
    obtain ⟨g2, c3, e2, _, _⟩ := h2.form hl
    injection e2 with e3 e4 e5
    subst e3 e5
    refine equalL_same w g1 g2 c1 c2 (l.take m) (by rw [List.length_take]; omega) (fun j u hj => addL_off g1 j ▸ h1.cells (g := g1) rfl j u hj) (fun j u hj => addL_off g2 j ▸ h2.cells (g := g2) rfl j u ?_)
    rw [lcells_take, List.getElem?_take] at hj
    split at hj
    · exact hj
    · cases hj
/-- Two rows of the same lines are equal. -/
theorem equalL_own (w : World) (b1 b2 : Nat) (v1 : Value) (A2 : Option Addr) (c2 : Nat) (l : List Ln) (hn : l.length ≤ 2000000) (h1 : w.ownsRow b1 34 2 v1 l.length (lcells l)) (h2 : w.ownsRow b2 34 2 (.slice A2 l.length c2) l.length (lcells l)) :
    Calls Try.prog 14 #[v1, .slice A2 l.length c2] w fun e w' => e = .returned (.bool true) ∧ ∃ m, w' = w.drewN m := by
  have ht : l.take l.length = l := List.take_length
  exact equalL_take w b1 b2 v1 A2 c2 l.length l l.length hn (by rw [ht]; exact h1) h2 (by rw [ht])
theorem toldL_int (w : World) (bp : Nat) (A : Option Addr) (c : Nat) (p : List UInt8) (m : Nat) (M : Int) (hM : M = (m : Int)) (hb : Bk w bp 29 #[.slice A p.length c]) (hr : RdB w w.heap.size A p) (hcap : p.length ≤ c) (hs : p.length ≤ 1048576) (hA : ∀ ad, A = some ad → ad.block < w.heap.size) :
    Calls Try.prog 15 #[.func (.func 31) #[] #[.pointer (some ⟨bp, 0, none⟩)], .int .i64 M] w fun e w' => (∃ v, e = .returned v ∧ w'.ownsRow w.heap.size 34 2 v ((numF 1 (linesM p)).take m).length (lcells ((numF 1 (linesM p)).take m))) ∧ Below w.heap.size w w' := by
  subst hM
  exact toldL_any w bp A c p m hb hr hcap hs hA
end Go.Proofs.Ytkfjnllbjlndlaa
