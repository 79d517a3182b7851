/- Words for a range over an iterator: what is kept of a slice, of an invariant; how a yield answers. -/
import Derived.Test.YtkfjnllbjlndlaaDoorRf
import Derived.Test.YtkfjnllbjlndlaaDoorOwn
import Derived.Shelf.Abstract
import Derived.Shelf.RegionOpen
import Derived.WalkKit
import Derived.OwnWalkIn
import Derived.TacticsInMore
import Derived.LoopNIn
import Derived.LoopIn
import Derived.Deep.QuietTactic
import Derived.BigQuiet
namespace Go.Proofs.YtkfjnllbjlndlaaDoor
open Go.RowKit Go.Shelf

theorem RdB.held {W W' : World} {lo hi B : Nat} {A : Option Addr} {p : List UInt8} (h : RdB W B A p) (hh : Held lo hi W W') (hlo : ∀ ad, A = some ad → lo ≤ ad.block) (hB : B ≤ hi) (hs : B ≤ W.heap.size) : RdB W' B A p := by
  refine ⟨h.1, fun hn => ?_⟩
  obtain ⟨ad, e, hb, hc⟩ := h.2 hn
  refine ⟨ad, e, hb, fun j u hu => ?_⟩
  have h1 := hh.same ad.block (hlo ad e) (by omega) (by omega)
  exact (World.cell?_of_block (by rw [block_of_add]; exact h1)).trans (hc j u hu)
theorem grown_drewN (W : World) (n : Nat) : W.grownBy (W.drewN n) none := ⟨rfl, rfl, rfl, Nat.le_refl _, fun _ _ _ => rfl⟩
theorem grown_drew (W : World) : W.grownBy W.drew none := ⟨rfl, rfl, rfl, Nat.le_refl _, fun _ _ _ => rfl⟩
theorem grown_alloc (W : World) (o : Obj) : W.grownBy (W.alloc o) none := ⟨rfl, rfl, rfl, by simp, fun i hi _ => Below.heap_alloc W o i hi⟩
theorem bears_only {β : Type} {lo hi g : Nat} {J : β → World → Prop} {s : β} {A B : World} (h : Bears lo hi J) (hj : J s A) (ho : Only g A B) (h1 : lo ≤ g) (h2 : g < hi) : J s B :=
  h s A B (some g) hj ho (fun r e => by cases e; exact ⟨h1, h2⟩)
theorem bears_none {β : Type} {lo hi : Nat} {J : β → World → Prop} {s : β} {A B : World} (h : Bears lo hi J) (hj : J s A) (ho : A.grownBy B none) : J s B := h s A B none hj ho (fun r e => by cases e)
theorem seq_dec {e : Ending} {P Q : Prop} (h : (e = .returned (.bool true) ∧ P) ∨ (e = .returned (.bool false) ∧ Q)) : ∃ b : Bool, e = .returned (.bool b) ∧ (b = true → P) ∧ (b = false → Q) := by
  rcases h with ⟨h1, h2⟩ | ⟨h1, h2⟩
  · exact ⟨true, h1, fun _ => h2, fun h => absurd h (by decide)⟩
  · exact ⟨false, h1, fun h => absurd h (by decide), fun _ => h2⟩
theorem end_normal {P : Program} {fn : Func} {R : Ending → World → Prop} {a : Act} {w : World} (h : bodyPost P fn R .ret a w) : bodyPost P fn R .normal a w := h
theorem jump_out {l : Nat} {J : Act → World → Prop} {Q : Exit → Act → World → Prop} {a : Act} {w : World} (h : Q .ret a w) : Exit.jump l J Q .ret a w := h
theorem jump_end {l : Nat} {J : Act → World → Prop} {Q : Exit → Act → World → Prop} {a : Act} {w : World} (h : Q .normal a w) : Exit.jump l J Q .normal a w := h

theorem grown_below {W W' : World} (h : Below W.heap.size W W') : W.grownBy W' none := ⟨h.os, h.tape, h.output, h.size, fun i hi _ => h.block i hi⟩
end Go.Proofs.YtkfjnllbjlndlaaDoor
