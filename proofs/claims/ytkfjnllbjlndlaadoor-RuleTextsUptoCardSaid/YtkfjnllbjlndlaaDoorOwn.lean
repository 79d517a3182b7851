/- More words on rows of the call's own. No program in sight. -/
import Derived.Test.YtkfjnllbjlndlaaDoorMem
namespace Go.Proofs.YtkfjnllbjlndlaaDoor
open Go.RowKit

section
variable {w w' : World} {base base' : Nat} {e : TypeId} {size n : Nat} {v : Value} {xs : List Value}
theorem own_mono (h : w.ownsRow base e size v n xs) (hb : base' ≤ base) : w.ownsRow base' e size v n xs := by
  obtain ⟨h1, h2⟩ := h
  refine ⟨h1, ?_⟩
  rcases h2 with h2 | ⟨g, cap, cur, hv, hg, r⟩
  · exact .inl h2
  · exact .inr ⟨g, cap, cur, hv, by omega, r⟩
theorem own_set (h : w.ownsRow base e size v n xs) {p : Addr} (hp : p.block < base) (u : Value) : (w.setCell p u).ownsRow base e size v n xs := ownsRow_setCell_below h hp u
theorem own_setN {g : Nat} (vs : List Value) : ∀ {w : World} (_ : w.ownsRow base e size v n xs) (i : Nat) (_ : g < base), (setN w g i vs).ownsRow base e size v n xs := by
  induction vs with
  | nil => intro w h i _; exact h
  | cons u us ih => intro w h i hg; exact ih (own_set (p := ⟨g, i, none⟩) h hg u) (i + 1) hg
theorem own_below (h : w.ownsRow base e size v n xs) (hb : Below w.heap.size w w') : w'.ownsRow base e size v n xs :=
  h.kept (row := none) ⟨hb.os, hb.tape, hb.output, hb.size, fun i hi _ => hb.block i hi⟩ (by cases v.ownBlock <;> simp)
theorem own_base (h : w.ownsRow base e size v n xs) (k : Nat) (hk : v.ownBlock = some k) : base ≤ k := (h.lt k hk).1
theorem own_reads {c : Nat} {A : Option Addr} (h : w.ownsRow base e size (.slice A n c) n xs) : Reads w w.heap.size size A n xs := Reads.of_own h
theorem own_cap {A : Option Addr} {c : Nat} (h : w.ownsRow base e size (.slice A n c) n xs) : n ≤ c := by
  rcases h.2 with ⟨h1, h2⟩ | ⟨g, cap, cur, h1, _, _, h2, _⟩
  · injection h1 with _ h3 h4; omega
  · injection h1 with _ _ h4; omega
end

theorem cell_keep {w w' : World} (hb : Below w.heap.size w w') {a : Addr} {v : Value} (hc : w.cell? a = some v) : w'.cell? a = some v := (hb.cell (World.block_lt_of_cell? w a hc)).trans hc
theorem below_keep {B : Nat} {w W W' : World} (h : Below B w W) (k : Below W.heap.size W W') (hB : B ≤ w.heap.size) : Below B w W' := below_then h k (Nat.le_trans hB h.size)
theorem cell_of {w : World} {cs : Array Value} {g : Nat} {t : TypeId} (h : Bk w g t cs) (i : Nat) (v : Value) (hv : cs[i]? = some v) : w.cell? ⟨g, i, none⟩ = some v := (h.cells i).trans hv

/-- A block of the call's own is as it was laid; what was there before the call is as it was. -/
def Kp (g : Nat) (t : TypeId) (cs : Array Value) (w W : World) : Prop := Bk W g t cs ∧ Below w.heap.size w W
theorem Kp.step {g : Nat} {t : TypeId} {cs : Array Value} {w W W' : World} (h : Kp g t cs w W) (hb : Below W.heap.size W W') : Kp g t cs w W' := ⟨h.1.kept hb, below_then h.2 hb h.2.size⟩
theorem Kp.alloc {g : Nat} {t : TypeId} {cs : Array Value} {w W : World} (h : Kp g t cs w W) (o : Obj) : Kp g t cs w (W.alloc o) := ⟨h.1.alloc o, h.2.alloc h.2.size o⟩
theorem Kp.drew {g : Nat} {t : TypeId} {cs : Array Value} {w W : World} (h : Kp g t cs w W) : Kp g t cs w W.drew := ⟨h.1.drew, h.2.drew⟩
theorem Kp.new (w : World) (t : TypeId) (cs : Array Value) : Kp w.heap.size t cs w (w.alloc (.cells cs t)) := ⟨Bk.new w t cs, (Below.refl _ _).alloc (Nat.le_refl _) _⟩

/-- A row just laid reads as its bytes. -/
theorem RdB.lit (w : World) (bs : List UInt8) (t : TypeId) (fr : Nat × Nat) : RdB (w.alloc (.cells (bcells bs).toArray t fr)) (w.heap.size + 1) (some ⟨w.heap.size, 0, none⟩) bs := by
  refine ⟨by simp [bcells], fun _ => ⟨_, rfl, by simp, fun j u hj => ?_⟩⟩
  have h1 := World.cell?_alloc_mark w (bcells bs).toArray t fr j
  have h2 : (⟨w.heap.size, 0, none⟩ : Addr).add j = ⟨w.heap.size, j, none⟩ := by unfold Addr.add; split <;> simp_all
  rw [h2, h1]
  simpa using hj
end Go.Proofs.YtkfjnllbjlndlaaDoor
