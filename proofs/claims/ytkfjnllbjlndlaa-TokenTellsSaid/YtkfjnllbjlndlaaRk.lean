/- A range over a function whose iterator may turn any blocks that it lays ahead of its first yield: those from its world's size up to a bound that it names. -/
import Derived.Test.YtkfjnllbjlndlaaRf
namespace Go.Proofs.Ytkfjnllbjlndlaa
open Go.RowKit

/-- An iterator's contract: whatever the caller's invariants J are, if they bear new blocks and the turn of the iterator's own blocks, which lie below the bound. -/
def SeqK {α : Type} (F : Fence) (n : Nat) (P : Program) (g : Nat) (lb : Array Value) (encs : α → Array Value) (lo : Nat) (S Sp : List α → Prop) (N : Nat) (w : World) : Prop :=
  ∀ (l : Nat) (J Jx : Nat → List α → World → Prop) (W : World), Below w.heap.size w W → (∀ hi, Bears W.heap.size hi (J hi)) → (∀ hi, Bears W.heap.size hi (Jx hi)) →
    (∀ hi pre x W1, J hi pre W1 → W.heap.size < hi → hi ≤ W1.heap.size → pre.length < N → YieldAt F (n - 1) P l (encs x) W1 fun e W' =>
      (e = .returned (.bool true) ∧ J hi (pre ++ [x]) W' ∧ Held lo hi W1 W') ∨ (e = .returned (.bool false) ∧ Jx hi (pre ++ [x]) W' ∧ Held W.heap.size hi W1 W')) →
    (∀ hi, J hi [] W) →
    CallsIn F n P g (#[.func (.yield l) #[] #[]] ++ lb) W fun e W' => (∃ v, e = .returned v) ∧ ((∃ hi xs, W.heap.size < hi ∧ S xs ∧ J hi xs W') ∨ (∃ hi pre, W.heap.size < hi ∧ Sp pre ∧ Jx hi pre W'))

section
variable {F : Fence} {n : Nat} {P : Program}
theorem wpIn_rangeK {α : Type} {g : Operand} {ps : Array Tmp} {assign body : Code} {Q : Exit → Act → World → Prop} {a : Act} {w : World}
    (hro : F.round = none) (h1 : 1 ≤ n) {gf : Nat} {lb : Array Value} (hg : a.eval g = .func (.func gf) #[] lb) (hFg : F.fn gf) (eg : ∀ args w, (callFunc gf args).run P w = .ok (.enter gf args) w)
    {encs : α → Array Value} {lo : Nat} {S Sp : List α → Prop} {N : Nat} {w0 : World} (hseq : SeqK F (n - 1) P gf lb encs lo S Sp N w0) (hlo : lo ≤ w.heap.size) (hb0 : Below w0.heap.size w0 w) (hps : ∀ x, (encs x).size = ps.size)
    (I : Nat → List α → World → Prop) (Ix : Nat → Code → List α → World → Prop) (hI : ∀ hi, Bears w.heap.size hi (I hi)) (hIx : ∀ hi c, Bears w.heap.size hi (Ix hi c)) (h0 : ∀ hi, I hi [] w)
    (Ax : Nat → α × Act → World → Prop) (hAx : ∀ hi, Bears w.heap.size hi (Ax hi))
    (hassign : ∀ (hi l : Nat) (pre : List α) (x : α) (W : World) (K : Act → World → Prop), I hi pre W → w.heap.size + 2 < hi → hi ≤ W.heap.size → pre.length < N →
      (∀ a₁ W₁, Held lo hi W W₁ → I hi pre W₁ → Ax hi (x, a₁) W₁ → K a₁ W₁) →
      assign.wpIn (F.inRound l) (n - 1 - 1) P (Exit.then K (fun _ _ _ => False)) { tmps := (ps.zip (encs x)).foldl (fun t (p, v) => t.setIfInBounds p v) a.tmps, defers := [] } W)
    (hbody : ∀ (hi l : Nat) (pre : List α) (x : α) (a₁ : Act) (W : World), Ax hi (x, a₁) W → I hi pre W → w.heap.size + 2 < hi → hi ≤ W.heap.size → pre.length < N → body.wpIn (F.inRound l) (n - 1 - 1) P (post1 lo hi (I hi) (Ix hi) (pre ++ [x]) W) a₁ W)
    (hdone : ∀ (hi : Nat) (xs : List α) (W : World), S xs → I hi xs W → w.heap.size + 2 < hi → W.heap[w.heap.size]? = some (.deferred (some [])) → Q .normal { a with defers := { target := .collected w.heap.size, args := #[] } :: a.defers } W)
    (hstop : ∀ (hi : Nat) (c : Code) (pre : List α) (W : World), Sp pre → Ix hi c pre W → w.heap.size + 2 < hi → W.heap[w.heap.size]? = some (.deferred (some [])) → c.wpIn F n P Q { a with defers := { target := .collected w.heap.size, args := #[] } :: a.defers } W) :
    (Code.rangeFunc g ps assign body).wpIn F n P Q a w := by
  refine wpIn_rangeFunc fun fn hfn => ?_
  rw [hro]
  obtain ⟨rec, hrec⟩ : ∃ rec : LoopState → Option Code → Loop, rec = fun st pe => { state := st, pending := pe, fn, tmps := a.tmps, params := ps, assign, body, defers := w.heap.size } := ⟨_, rfl⟩
  obtain ⟨W1, hW1⟩ : ∃ W1, W1 = (w.alloc (.deferred (some []))).alloc (.loop (rec .ready none)) := ⟨_, rfl⟩
  have hs1 : W1.heap.size = w.heap.size + 2 := by rw [hW1]; simp
  have hL1 : W1.heap[w.heap.size + 1]? = some (.loop (rec .ready none)) := by
    have := World.alloc_heap_new (w.alloc (.deferred (some []))) (.loop (rec .ready none))
    rw [World.size_alloc] at this
    rw [hW1]; exact this
  have hD1 : W1.heap[w.heap.size]? = some (.deferred (some [])) := by
    rw [hW1]; exact (Below.heap_alloc _ _ _ (by simp)).trans (World.alloc_heap_new w _)
  have hg1 : w.grownBy W1 none := by rw [hW1]; exact ⟨rfl, rfl, rfl, by simp; omega, fun i hi _ => (Below.heap_alloc _ _ i (by simp; omega)).trans (Below.heap_alloc w _ i hi)⟩
  have hI1 : ∀ hi, I hi [] W1 := fun hi => hI hi _ _ _ _ (h0 hi) hg1 (fun r e => by cases e)
  have hb1 : Below w0.heap.size w0 W1 := Below.grown hb0 hg1 hb0.size (fun i e => by cases e)
  -- a turn of the record
  have turn : ∀ (X : World) (o : Obj), X.grownBy (X.putObj (w.heap.size + 1) o) (some (w.heap.size + 1)) := fun X o => grownBy_putObj' X _ o
  have inr : ∀ hi, w.heap.size + 2 < hi → ∀ r, some (w.heap.size + 1) = some r → w.heap.size ≤ r ∧ r < hi := fun hi h r e => by cases e; omega
  refine ⟨w.heap.size + 1, [{ target := .collected w.heap.size, args := #[] }], W1, { target := .fn (.func gf) lb, args := #[.func (.yield (w.heap.size + 1)) #[] #[]] }, W1, gf,
    #[.func (.yield (w.heap.size + 1)) #[] #[]] ++ lb, W1, ?_, ?_, ?_, ?_, fun _ => h1, ?_⟩
  · rw [hW1, hrec]; exact run_enterLoop_outer _ _ _ _ _
  · simp only [resolve, hg]
    simp [go_sem]
  · intro f' hf'; simp [Target.leads] at hf'; subst hf'; exact hFg
  · simp [invoke, go_sem, eg]
  · have lift : ∀ {hi : Nat} {J : List α → World → Prop}, Bears w.heap.size hi J → Bears W1.heap.size hi J :=
      fun hJ s A B row hs hg hr => hJ s A B row hs hg (fun r e => by have := hr r e; omega)
    have keep : ∀ {hi : Nat} {A B : World} {row : Option Nat} {i : Nat} {o : Obj}, A.grownBy B row → (∀ r, row = some r → W1.heap.size ≤ r ∧ r < hi) → i < w.heap.size + 2 → A.heap[i]? = some o → B.heap[i]? = some o :=
      fun hg hr hi ho => (hg.block _ (Array.getElem?_eq_some_iff.1 ho).1 (fun e => by have := hr _ e.symm; omega)).trans ho
    refine (hseq (w.heap.size + 1)
      (fun hi pre W => I hi pre W ∧ W.heap[w.heap.size + 1]? = some (.loop (rec .ready none)) ∧ W.heap[w.heap.size]? = some (.deferred (some [])))
      (fun hi pre W => ∃ c, Ix hi c pre W ∧ W.heap[w.heap.size + 1]? = some (.loop (rec .done (some c))) ∧ W.heap[w.heap.size]? = some (.deferred (some [])))
      W1 hb1
      (fun hi s A B row hs hg' hr => ⟨lift (hI hi) s A B row hs.1 hg' hr, keep hg' hr (by omega) hs.2.1, keep hg' hr (by omega) hs.2.2⟩)
      (fun hi s A B row hs hg' hr => by
        obtain ⟨c, hc, hl, hk⟩ := hs
        exact ⟨c, lift (hIx hi c) s A B row hc hg' hr, keep hg' hr (by omega) hl, keep hg' hr (by omega) hk⟩)
      ?_ (fun hi => ⟨hI1 hi, hL1, hD1⟩)).mono ?_
    · rintro h pre x W ⟨hi, hl, hk⟩ hh0 hsz hlen
      rw [hs1] at hh0
      have hy := run_yield (P := P) (args := encs x) hl (by rw [hrec]; exact hps x)
      rw [hrec] at hy
      refine ⟨fn, _, assign, body, hy, roundIn_of_wpIn hfn (hassign h _ pre x W _ hi hh0 hsz hlen ?_)⟩
      intro a₁ Wa hh hia hax
      have hla : Wa.heap[w.heap.size + 1]? = some (.loop (rec .ready none)) := (hh.same _ (by omega) (by omega) (by omega)).trans hl
      have hka : Wa.heap[w.heap.size]? = some (.deferred (some [])) := (hh.same _ (by omega) (by omega) (by omega)).trans hk
      have hsa := hh.size
      refine ⟨_, run_beginRound hla (by rw [hrec]), ?_⟩
      have hlb : (Wa.putObj (w.heap.size + 1) (.loop { rec .ready none with state := .busy })).heap[w.heap.size + 1]? = some (.loop { rec .ready none with state := .busy }) := World.putObj_heap_same (by omega)
      have hkb : (Wa.putObj (w.heap.size + 1) (.loop { rec .ready none with state := .busy })).heap[w.heap.size]? = some (.deferred (some [])) := (World.putObj_heap_other (by omega)).trans hka
      have hib := hI h _ _ _ _ hia (turn Wa (.loop { rec .ready none with state := .busy })) (inr h hh0)
      have haxb := hAx h _ _ _ _ hax (turn Wa (.loop { rec .ready none with state := .busy })) (inr h hh0)
      have hall : ∀ (W3 : World) (o : Obj), Held lo h (Wa.putObj (w.heap.size + 1) (.loop { rec .ready none with state := .busy })) W3 → o = .loop (rec .ready none) → Held lo h W (W3.putObj (w.heap.size + 1) o) := by
        intro W3 o h3 ho
        have hs3 := h3.size
        rw [World.putObj_size] at hs3
        refine ⟨by rw [World.putObj_size]; omega, fun i i1 i2 i3 => ?_⟩
        by_cases he : i = w.heap.size + 1
        · subst he; rw [World.putObj_heap_same (by omega), hl, ho]
        · rw [World.putObj_heap_other he, h3.same i i1 i2 (by rw [World.putObj_size]; omega), World.putObj_heap_other he, hh.same i i1 i2 i3]
      have own : ∀ (W3 : World) (o : Obj), Held lo h (Wa.putObj (w.heap.size + 1) (.loop { rec .ready none with state := .busy })) W3 → Held W1.heap.size h W (W3.putObj (w.heap.size + 1) o) := by
        intro W3 o h3
        have hs3 := h3.size
        rw [World.putObj_size] at hs3
        refine ⟨by rw [World.putObj_size]; omega, fun i i1 i2 i3 => ?_⟩
        have he : ¬ i = w.heap.size + 1 := by omega
        rw [World.putObj_heap_other he, h3.same i (by omega) i2 (by rw [World.putObj_size]; omega), World.putObj_heap_other he, hh.same i (by omega) i2 i3]
      refine wpIn_mono (hbody h _ pre x a₁ _ haxb hib hh0 (by rw [World.putObj_size]; omega) hlen) ?_
      have fin : ∀ (jump : Option Code) (W3 : World), Held lo h (Wa.putObj (w.heap.size + 1) (.loop { rec .ready none with state := .busy })) W3 →
          (Instr.endRound (w.heap.size + 1) jump).run P W3 = .ok (.bool jump.isNone) (W3.putObj (w.heap.size + 1) (.loop (rec (if jump.isNone then .ready else .done) jump))) ∧
          (W3.putObj (w.heap.size + 1) (.loop (rec (if jump.isNone then .ready else .done) jump))).heap[w.heap.size + 1]? = some (.loop (rec (if jump.isNone then .ready else .done) jump)) ∧
          (W3.putObj (w.heap.size + 1) (.loop (rec (if jump.isNone then .ready else .done) jump))).heap[w.heap.size]? = some (.deferred (some [])) := fun jump W3 h3 => by
        have hl3 := (h3.same (w.heap.size + 1) (by omega) (by omega) (by rw [World.putObj_size]; omega)).trans hlb
        have hk3 := (h3.same w.heap.size (by omega) (by omega) (by rw [World.putObj_size]; omega)).trans hkb
        have := run_endRound (P := P) jump hl3
        rw [hrec] at this ⊢
        exact ⟨this, World.putObj_heap_same (Array.getElem?_eq_some_iff.1 hl3).1, (World.putObj_heap_other (by omega)).trans hk3⟩
      rintro e a3 W3 hp
      cases e with
      | normal =>
        obtain ⟨h3, hi3⟩ := hp
        obtain ⟨hr, hl4, hk4⟩ := fin none W3 h3
        exact ⟨_, _, hr, .inl ⟨rfl, ⟨hI h _ _ _ _ hi3 (turn W3 _) (inr h hh0), hl4, hk4⟩, hall W3 _ h3 rfl⟩⟩
      | ret =>
        obtain ⟨h3, hi3⟩ := hp
        obtain ⟨hr, hl4, hk4⟩ := fin (some .ret) W3 h3
        exact ⟨_, _, hr, .inr ⟨rfl, ⟨.ret, hIx h _ _ _ _ _ hi3 (turn W3 _) (inr h hh0), hl4, hk4⟩, own W3 _ h3⟩⟩
      | exit id =>
        obtain ⟨h3, hi3⟩ := hp
        obtain ⟨hr, hl4, hk4⟩ := fin (some (.exit id)) W3 h3
        exact ⟨_, _, hr, .inr ⟨rfl, ⟨.exit id, hIx h _ _ _ _ _ hi3 (turn W3 _) (inr h hh0), hl4, hk4⟩, own W3 _ h3⟩⟩
      | goto t =>
        obtain ⟨h3, hi3⟩ := hp
        obtain ⟨hr, hl4, hk4⟩ := fin (some (.goto t)) W3 h3
        exact ⟨_, _, hr, .inr ⟨rfl, ⟨.goto t, hIx h _ _ _ _ _ hi3 (turn W3 _) (inr h hh0), hl4, hk4⟩, own W3 _ h3⟩⟩
      | panic ch => exact hp.elim
      | outgrown => exact hp.elim
    · rintro e W2 ⟨⟨v, rfl⟩, (⟨h, xs, hh0, hS, hi, hl, hk⟩ | ⟨h, pre, hh0, hSp, c, hi, hl, hk⟩)⟩
      · rw [hs1] at hh0
        exact ⟨none, _, by have := run_endLoop (P := P) hl (by rw [hrec]; simp); rw [hrec] at this; exact this, hdone h xs _ hS (hI h _ _ _ _ hi (turn W2 _) (inr h hh0)) hh0 ((World.putObj_heap_other (by omega)).trans hk)⟩
      · rw [hs1] at hh0
        exact ⟨some c, _, by have := run_endLoop (P := P) hl (by rw [hrec]; simp); rw [hrec] at this; exact this, hstop h c pre _ hSp (hIx h c _ _ _ _ hi (turn W2 _) (inr h hh0)) hh0 ((World.putObj_heap_other (by omega)).trans hk)⟩
end
end Go.Proofs.Ytkfjnllbjlndlaa
