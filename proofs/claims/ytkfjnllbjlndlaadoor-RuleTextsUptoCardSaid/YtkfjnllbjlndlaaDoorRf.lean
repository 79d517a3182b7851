/- A range over a function whose iterator may turn one block of its own (the first that it lays): what each side is asked. No program in sight. -/
import Derived.Test.YtkfjnllbjlndlaaDoorMem
import Derived.RangeFuncNested
import Derived.RangeFuncBound
import Derived.RangeFuncCalls
import Derived.RangeFuncLeaves
import Derived.ScopeJumps
namespace Go.Proofs.YtkfjnllbjlndlaaDoor
open Go.RowKit

/-- The blocks from lo up to hi lie as they lay. -/
structure Held (lo hi : Nat) (W W' : World) : Prop where
  size : W.heap.size ≤ W'.heap.size
  same : ∀ i, lo ≤ i → i < hi → i < W.heap.size → W'.heap[i]? = W.heap[i]?

/-- J minds neither new blocks nor a turn of one of the blocks from lo up to hi. -/
def Bears {β : Type} (lo hi : Nat) (J : β → World → Prop) : Prop :=
  ∀ s A B row, J s A → A.grownBy B row → (∀ r, row = some r → lo ≤ r ∧ r < hi) → J s B

section
variable {lo lo' hi hi' : Nat} {W W' W'' : World}
theorem Held.refl (lo hi : Nat) (W : World) : Held lo hi W W := ⟨Nat.le_refl _, fun _ _ _ _ => rfl⟩
theorem Held.trans (h : Held lo hi W W') (k : Held lo hi W' W'') : Held lo hi W W'' :=
  ⟨Nat.le_trans h.size k.size, fun i h1 h2 h3 => (k.same i h1 h2 (Nat.lt_of_lt_of_le h3 h.size)).trans (h.same i h1 h2 h3)⟩
theorem Held.narrow (h : Held lo hi W W') (h1 : lo ≤ lo') (h2 : hi' ≤ hi) : Held lo' hi' W W' := ⟨h.size, fun i a b c => h.same i (by omega) (by omega) c⟩
theorem Held.grown {row : Option Nat} (hg : W.grownBy W' row) (hr : ∀ r, row = some r → r < lo ∨ hi ≤ r) : Held lo hi W W' :=
  ⟨hg.size, fun i h1 h2 h3 => hg.block i h3 (fun e => by have := hr i e.symm; omega)⟩
theorem Held.of_below (h : Below W.heap.size W W') : Held lo hi W W' := ⟨h.size, fun i _ _ h3 => h.block i h3⟩
theorem Held.alloc (W : World) (o : Obj) : Held lo hi W (W.alloc o) := ⟨by simp, fun i _ _ h3 => Below.heap_alloc W o i h3⟩
theorem Held.drew (W : World) : Held lo hi W W.drew := ⟨Nat.le_refl _, fun _ _ _ _ => rfl⟩
theorem Held.drewN (W : World) (n : Nat) : Held lo hi W (W.drewN n) := ⟨Nat.le_refl _, fun _ _ _ _ => rfl⟩
theorem Held.setCell (W : World) (p : Addr) (v : Value) (hp : p.block < lo ∨ hi ≤ p.block) : Held lo hi W (W.setCell p v) :=
  ⟨by simp [World.setCell], fun i h1 h2 _ => Below.heap_setCell W p v i (by omega)⟩
theorem Held.bk {g : Nat} {t : TypeId} {cs : Array Value} (h : Held lo hi W W') (hb : Bk W g t cs) (h1 : lo ≤ g) (h2 : g < hi) : Bk W' g t cs := (h.same g h1 h2 hb.lt).trans hb
theorem bears_and {β : Type} {J K : β → World → Prop} (h : Bears lo hi J) (k : Bears lo hi K) : Bears lo hi fun s W => J s W ∧ K s W :=
  fun s A B row hs hg hr => ⟨h s A B row hs.1 hg hr, k s A B row hs.2 hg hr⟩
theorem bears_below {β : Type} {B0 : Nat} {w : World} (h : B0 ≤ lo) (h2 : B0 ≤ w.heap.size) : Bears lo hi fun (_ : β) W => Below B0 w W :=
  fun _ _ _ _ hs hg hr => Below.grown hs hg (Nat.le_trans h2 hs.size) (fun i e => by have := hr i e; omega)
theorem bears_bk {β : Type} {t : TypeId} (g : Nat) (cs : β → Array Value) (h : g < lo ∨ hi ≤ g) : Bears lo hi fun s W => Bk W g t (cs s) :=
  fun _ _ _ _ hs hg hr => hs.grown hg (fun e => by have := hr g e.symm; omega)
theorem bears_pure {β : Type} (p : β → Prop) : Bears lo hi fun s (_ : World) => p s := fun _ _ _ _ hs _ _ => hs
end

/-- An iterator's contract: whatever the caller's invariant J is, if it bears new blocks and the turn of the first block that the iterator lays. -/
def Seq1 {α : Type} (F : Fence) (n : Nat) (P : Program) (g : Nat) (lb : Array Value) (encs : α → Array Value) (lo : Nat) (S Sp : List α → Prop) (N : Nat) (w : World) : Prop :=
  ∀ (l : Nat) (J Jx : List α → World → Prop) (W : World), Below w.heap.size w W → Bears W.heap.size (W.heap.size + 1) J → Bears W.heap.size (W.heap.size + 1) Jx →
    (∀ pre x W1, J pre W1 → W.heap.size < W1.heap.size → pre.length < N → YieldAt F (n - 1) P l (encs x) W1 fun e W' =>
      (e = .returned (.bool true) ∧ J (pre ++ [x]) W' ∧ Held lo (W.heap.size + 1) W1 W') ∨ (e = .returned (.bool false) ∧ Jx (pre ++ [x]) W')) →
    J [] W →
    CallsIn F n P g (#[.func (.yield l) #[] #[]] ++ lb) W fun e W' => (∃ v, e = .returned v) ∧ ((∃ xs, S xs ∧ J xs W') ∨ (∃ pre, Sp pre ∧ Jx pre W'))

/-- How a round's body may be left. -/
def post1 {α : Type} (lo hi : Nat) (I : List α → World → Prop) (Ix : Code → List α → World → Prop) (xs : List α) (W : World) : Exit → Act → World → Prop
  | .normal, _, W' => Held lo hi W W' ∧ I xs W'
  | .ret, _, W' => Held lo hi W W' ∧ Ix .ret xs W'
  | .exit id, _, W' => Held lo hi W W' ∧ Ix (.exit id) xs W'
  | .goto t, _, W' => Held lo hi W W' ∧ Ix (.goto t) xs W'
  | .panic _, _, _ => False
  | .outgrown, _, _ => False

section
variable {F : Fence} {n : Nat} {P : Program}
theorem wpIn_range1 {α : Type} {g : Operand} {ps : Array Tmp} {assign body : Code} {Q : Exit → Act → World → Prop} {a : Act} {w : World}
    (hro : F.round = none) (h1 : 1 ≤ n) {gf : Nat} {lb : Array Value} (hg : a.eval g = .func (.func gf) #[] lb) (hFg : F.fn gf) (eg : ∀ args w, (callFunc gf args).run P w = .ok (.enter gf args) w)
    {encs : α → Array Value} {lo : Nat} {S Sp : List α → Prop} {N : Nat} {w0 : World} (hseq : Seq1 F (n - 1) P gf lb encs lo S Sp N w0) (hlo : lo ≤ w.heap.size) (hb0 : Below w0.heap.size w0 w) (hps : ∀ x, (encs x).size = ps.size)
    (I : List α → World → Prop) (Ix : Code → List α → World → Prop) (hI : Bears w.heap.size (w.heap.size + 3) I) (hIx : ∀ c, Bears w.heap.size (w.heap.size + 3) (Ix c)) (h0 : I [] w)
    (Ax : α × Act → World → Prop) (hAx : Bears w.heap.size (w.heap.size + 3) Ax)
    (hassign : ∀ (l : Nat) (pre : List α) (x : α) (W : World) (K : Act → World → Prop), I pre W → w.heap.size + 3 ≤ W.heap.size → pre.length < N →
      (∀ a₁ W₁, Held lo (w.heap.size + 3) W W₁ → I pre W₁ → Ax (x, a₁) W₁ → K a₁ W₁) →
      assign.wpIn (F.inRound l) (n - 1 - 1) P (Exit.then K (fun _ _ _ => False)) { tmps := (ps.zip (encs x)).foldl (fun t (p, v) => t.setIfInBounds p v) a.tmps, defers := [] } W)
    (hbody : ∀ (l : Nat) (pre : List α) (x : α) (a₁ : Act) (W : World), Ax (x, a₁) W → I pre W → w.heap.size + 3 ≤ W.heap.size → pre.length < N → body.wpIn (F.inRound l) (n - 1 - 1) P (post1 lo (w.heap.size + 3) I Ix (pre ++ [x]) W) a₁ W)
    (hdone : ∀ (xs : List α) (W : World), S xs → I xs W → W.heap[w.heap.size]? = some (.deferred (some [])) → Q .normal { a with defers := { target := .collected w.heap.size, args := #[] } :: a.defers } W)
    (hstop : ∀ (c : Code) (pre : List α) (W : World), Sp pre → Ix c pre W → W.heap[w.heap.size]? = some (.deferred (some [])) → c.wpIn F n P Q { a with defers := { target := .collected w.heap.size, args := #[] } :: a.defers } W) :
    (Code.rangeFunc g ps assign body).wpIn F n P Q a w := by
  refine wpIn_rangeFunc fun fn hfn => ?_
  rw [hro]
  obtain ⟨rec, hrec⟩ : ∃ rec : LoopState → Option Code → Loop, rec = fun st pe => { state := st, pending := pe, fn, tmps := a.tmps, params := ps, assign, body, defers := w.heap.size } := ⟨_, rfl⟩
  obtain ⟨W1, hW1⟩ : ∃ W1, W1 = (w.alloc (.deferred (some []))).alloc (.loop (rec .ready none)) := ⟨_, rfl⟩
  have hs1 : W1.heap.size = w.heap.size + 2 := by rw [hW1]; simp
  have hL1 : W1.heap[w.heap.size + 1]? = some (.loop (rec .ready none)) := by
    have := World.alloc_heap_new (w.alloc (.deferred (some []))) (.loop (rec .ready none))
    rw [World.size_alloc] at this
    rw [hW1]; exact this
  have hD1 : W1.heap[w.heap.size]? = some (.deferred (some [])) := by
    rw [hW1]; exact (Below.heap_alloc _ _ _ (by simp)).trans (World.alloc_heap_new w _)
  have hg1 : w.grownBy W1 none := by rw [hW1]; exact ⟨rfl, rfl, rfl, by simp; omega, fun i hi _ => (Below.heap_alloc _ _ i (by simp; omega)).trans (Below.heap_alloc w _ i hi)⟩
  have hI1 : I [] W1 := hI _ _ _ _ h0 hg1 (fun r e => by cases e)
  have hb1 : Below w0.heap.size w0 W1 := Below.grown hb0 hg1 hb0.size (fun i e => by cases e)
  -- a turn of the record
  have turn : ∀ (X : World) (o : Obj), X.grownBy (X.putObj (w.heap.size + 1) o) (some (w.heap.size + 1)) := fun X o => grownBy_putObj' X _ o
  have inr : ∀ r, some (w.heap.size + 1) = some r → w.heap.size ≤ r ∧ r < w.heap.size + 3 := fun r e => by cases e; omega
  refine ⟨w.heap.size + 1, [{ target := .collected w.heap.size, args := #[] }], W1, { target := .fn (.func gf) lb, args := #[.func (.yield (w.heap.size + 1)) #[] #[]] }, W1, gf,
    #[.func (.yield (w.heap.size + 1)) #[] #[]] ++ lb, W1, ?_, ?_, ?_, ?_, fun _ => h1, ?_⟩
  · rw [hW1, hrec]; exact run_enterLoop_outer _ _ _ _ _
  · simp only [resolve, hg]
    simp [go_sem]
  · intro f' hf'; simp [Target.leads] at hf'; subst hf'; exact hFg
  · simp [invoke, go_sem, eg]
  · have lift : ∀ {J : List α → World → Prop}, Bears w.heap.size (w.heap.size + 3) J → Bears W1.heap.size (W1.heap.size + 1) J :=
      fun hJ s A B row hs hg hr => hJ s A B row hs hg (fun r e => by have := hr r e; omega)
    have keep : ∀ {A B : World} {row : Option Nat} {i : Nat} {o : Obj}, A.grownBy B row → (∀ r, row = some r → W1.heap.size ≤ r ∧ r < W1.heap.size + 1) → i < w.heap.size + 2 → A.heap[i]? = some o → B.heap[i]? = some o :=
      fun hg hr hi ho => (hg.block _ (Array.getElem?_eq_some_iff.1 ho).1 (fun e => by have := hr _ e.symm; omega)).trans ho
    refine (hseq (w.heap.size + 1)
      (fun pre W => I pre W ∧ W.heap[w.heap.size + 1]? = some (.loop (rec .ready none)) ∧ W.heap[w.heap.size]? = some (.deferred (some [])))
      (fun pre W => ∃ c, Ix c pre W ∧ W.heap[w.heap.size + 1]? = some (.loop (rec .done (some c))) ∧ W.heap[w.heap.size]? = some (.deferred (some [])))
      W1 hb1
      (fun s A B row hs hg' hr => ⟨lift hI s A B row hs.1 hg' hr, keep hg' hr (by omega) hs.2.1, keep hg' hr (by omega) hs.2.2⟩)
      (fun s A B row hs hg' hr => by
        obtain ⟨c, hc, hl, hk⟩ := hs
        exact ⟨c, lift (hIx c) s A B row hc hg' hr, keep hg' hr (by omega) hl, keep hg' hr (by omega) hk⟩)
      ?_ ⟨hI1, hL1, hD1⟩).mono ?_
    · rintro pre x W ⟨hi, hl, hk⟩ hsz hlen
      rw [hs1] at hsz ⊢
      have hy := run_yield (P := P) (args := encs x) hl (by rw [hrec]; exact hps x)
      rw [hrec] at hy
      refine ⟨fn, _, assign, body, hy, roundIn_of_wpIn hfn (hassign _ pre x W _ hi (by omega) hlen ?_)⟩
      intro a₁ Wa hh hia hax
      have hla : Wa.heap[w.heap.size + 1]? = some (.loop (rec .ready none)) := (hh.same _ (by omega) (by omega) (by omega)).trans hl
      have hka : Wa.heap[w.heap.size]? = some (.deferred (some [])) := (hh.same _ (by omega) (by omega) (by omega)).trans hk
      have hsa := hh.size
      refine ⟨_, run_beginRound hla (by rw [hrec]), ?_⟩
      have hlb : (Wa.putObj (w.heap.size + 1) (.loop { rec .ready none with state := .busy })).heap[w.heap.size + 1]? = some (.loop { rec .ready none with state := .busy }) := World.putObj_heap_same (by omega)
      have hkb : (Wa.putObj (w.heap.size + 1) (.loop { rec .ready none with state := .busy })).heap[w.heap.size]? = some (.deferred (some [])) := (World.putObj_heap_other (by omega)).trans hka
      have hib := hI _ _ _ _ hia (turn Wa (.loop { rec .ready none with state := .busy })) inr
      have haxb := hAx _ _ _ _ hax (turn Wa (.loop { rec .ready none with state := .busy })) inr
      have hall : ∀ (W3 : World) (o : Obj), Held lo (w.heap.size + 3) (Wa.putObj (w.heap.size + 1) (.loop { rec .ready none with state := .busy })) W3 → o = .loop (rec .ready none) → Held lo (w.heap.size + 3) W (W3.putObj (w.heap.size + 1) o) := by
        intro W3 o h3 ho
        have hs3 := h3.size
        rw [World.putObj_size] at hs3
        refine ⟨by rw [World.putObj_size]; omega, fun i i1 i2 i3 => ?_⟩
        by_cases he : i = w.heap.size + 1
        · subst he; rw [World.putObj_heap_same (by omega), hl, ho]
        · rw [World.putObj_heap_other he, h3.same i i1 i2 (by rw [World.putObj_size]; omega), World.putObj_heap_other he, hh.same i i1 i2 i3]
      refine wpIn_mono (hbody _ pre x a₁ _ haxb hib (by rw [World.putObj_size]; omega) hlen) ?_
      have fin : ∀ (jump : Option Code) (W3 : World), Held lo (w.heap.size + 3) (Wa.putObj (w.heap.size + 1) (.loop { rec .ready none with state := .busy })) W3 →
          (Instr.endRound (w.heap.size + 1) jump).run P W3 = .ok (.bool jump.isNone) (W3.putObj (w.heap.size + 1) (.loop (rec (if jump.isNone then .ready else .done) jump))) ∧
          (W3.putObj (w.heap.size + 1) (.loop (rec (if jump.isNone then .ready else .done) jump))).heap[w.heap.size + 1]? = some (.loop (rec (if jump.isNone then .ready else .done) jump)) ∧
          (W3.putObj (w.heap.size + 1) (.loop (rec (if jump.isNone then .ready else .done) jump))).heap[w.heap.size]? = some (.deferred (some [])) := fun jump W3 h3 => by
        have hl3 := (h3.same (w.heap.size + 1) (by omega) (by omega) (by rw [World.putObj_size]; omega)).trans hlb
        have hk3 := (h3.same w.heap.size (by omega) (by omega) (by rw [World.putObj_size]; omega)).trans hkb
        have := run_endRound (P := P) jump hl3
        rw [hrec] at this ⊢
        exact ⟨this, World.putObj_heap_same (Array.getElem?_eq_some_iff.1 hl3).1, (World.putObj_heap_other (by omega)).trans hk3⟩
      rintro e a3 W3 hp
      cases e with
      | normal =>
        obtain ⟨h3, hi3⟩ := hp
        obtain ⟨hr, hl4, hk4⟩ := fin none W3 h3
        exact ⟨_, _, hr, .inl ⟨rfl, ⟨hI _ _ _ _ hi3 (turn W3 _) inr, hl4, hk4⟩, hall W3 _ h3 rfl⟩⟩
      | ret =>
        obtain ⟨h3, hi3⟩ := hp
        obtain ⟨hr, hl4, hk4⟩ := fin (some .ret) W3 h3
        exact ⟨_, _, hr, .inr ⟨rfl, .ret, hIx _ _ _ _ _ hi3 (turn W3 _) inr, hl4, hk4⟩⟩
      | exit id =>
        obtain ⟨h3, hi3⟩ := hp
        obtain ⟨hr, hl4, hk4⟩ := fin (some (.exit id)) W3 h3
        exact ⟨_, _, hr, .inr ⟨rfl, .exit id, hIx _ _ _ _ _ hi3 (turn W3 _) inr, hl4, hk4⟩⟩
      | goto t =>
        obtain ⟨h3, hi3⟩ := hp
        obtain ⟨hr, hl4, hk4⟩ := fin (some (.goto t)) W3 h3
        exact ⟨_, _, hr, .inr ⟨rfl, .goto t, hIx _ _ _ _ _ hi3 (turn W3 _) inr, hl4, hk4⟩⟩
      | panic ch => exact hp.elim
      | outgrown => exact hp.elim
    · rintro e W2 ⟨⟨v, rfl⟩, (⟨xs, hS, hi, hl, hk⟩ | ⟨pre, hSp, c, hi, hl, hk⟩)⟩
      · exact ⟨none, _, by have := run_endLoop (P := P) hl (by rw [hrec]; simp); rw [hrec] at this; exact this, hdone xs _ hS (hI _ _ _ _ hi (turn W2 _) inr) ((World.putObj_heap_other (by omega)).trans hk)⟩
      · exact ⟨some c, _, by have := run_endLoop (P := P) hl (by rw [hrec]; simp); rw [hrec] at this; exact this, hstop c pre _ hSp (hIx c _ _ _ _ hi (turn W2 _) inr) ((World.putObj_heap_other (by omega)).trans hk)⟩
end
end Go.Proofs.YtkfjnllbjlndlaaDoor
