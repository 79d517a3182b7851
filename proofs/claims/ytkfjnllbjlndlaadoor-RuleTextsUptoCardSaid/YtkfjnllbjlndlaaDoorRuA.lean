/- A rule as a value; bytes.Equal; rule.Same, riddleref20.Same. -/
import Derived.Test.YtkfjnllbjlndlaaDoorFlEq
import Derived.Test.YtkfjnllbjlndlaaDoorBytes
import Derived.Test.YtkfjnllbjlndlaaDoorOwn
import Derived.Deep.QuietTactic
import Derived.BigQuiet
namespace Go.Proofs.YtkfjnllbjlndlaaDoor
open Go.RowKit

structure Ru where
  id : Int
  f : Fl.F5
  p : List UInt8
  deriving DecidableEq
def Ru.cells (r : Ru) (A : Option Addr) (c : Nat) : Array Value := #[.int .i64 r.id, .bool r.f.i, .bool r.f.s, .bool r.f.m, .bool r.f.o, .bool r.f.l, .slice A r.p.length c]
def Ru.v (r : Ru) (A : Option Addr) (c : Nat) : Value := .agg (r.cells A c)
def Ru.same (a b : Ru) : Bool := a.id == b.id && (a.f.eq b.f && decide (a.p = b.p))
theorem Ru.same_iff (a b : Ru) : a.same b = true ↔ a = b := by
  obtain ⟨i, f, p⟩ := a
  obtain ⟨i', f', p'⟩ := b
  simp [Ru.same, Fl.F5.eq_iff]
theorem Ru.same_self (a : Ru) : a.same a = true := (Ru.same_iff a a).2 rfl

set_option maxHeartbeats 1000000 in
theorem equalB_any (w : World) (B1 B2 : Nat) (A1 A2 : Option Addr) (c1 c2 : Nat) (p q : List UInt8) (h1 : RdB w B1 A1 p) (h2 : RdB w B2 A2 q) :
    Calls Tryd.prog 14 #[.slice A1 p.length c1, .slice A2 q.length c2] w fun e w' => e = .returned (.bool (decide (p = q))) ∧ w' = w := by
  have s1 := h1.string_ (P := Tryd.prog) 24 9 5 Tryd.underlying24 Tryd.underlying5 Tryd.underlying9 c1
  have s2 := h2.string_ (P := Tryd.prog) 24 9 5 Tryd.underlying24 Tryd.underlying5 Tryd.underlying9 c2
  clear h1 h2
  by_cases h : p = q
  · have hd : decide (p = q) = true := decide_eq_true h
    rw [hd]
    clear hd
    subst h
    go_enter Tryd.func14, Tryd.ntmps14
    go_wp2
    go_ret
    exact ⟨rfl, rfl⟩
  · have hd : decide (p = q) = false := decide_eq_false h
    rw [hd]
    have hn : (p == q) = false := beq_eq_false_iff_ne.2 h
    clear hd h
    go_enter Tryd.func14, Tryd.ntmps14
    go_wp2
    go_ret
    exact ⟨rfl, rfl⟩

set_option maxRecDepth 100000 in
set_option maxHeartbeats 2000000 in
theorem same_any (w : World) (a b : Ru) (A1 A2 : Option Addr) (c1 c2 : Nat) (h1 : RdB w w.heap.size A1 a.p) (h2 : RdB w w.heap.size A2 b.p) :
    Calls Tryd.prog 11 #[a.v A1 c1, b.v A2 c2] w fun e w' => e = .returned (.bool (a.same b)) ∧ Below w.heap.size w w' := by
  obtain ⟨i, f, p⟩ := a
  obtain ⟨i', f', p'⟩ := b
  unfold Ru.v Ru.cells Ru.same
  simp only at h1 h2 ⊢
  have H1 := Lib.hid (show ∀ o1 o2, RdB ((w.alloc o1).alloc o2) ((w.alloc o1).alloc o2).heap.size A1 p from fun o1 o2 => Reads.more (Reads.alloc (Reads.alloc h1 (Nat.le_refl _) _) (by simp) _) (by simp; omega))
  have H2 := Lib.hid (show ∀ o1 o2, RdB ((w.alloc o1).alloc o2) ((w.alloc o1).alloc o2).heap.size A2 p' from fun o1 o2 => Reads.more (Reads.alloc (Reads.alloc h2 (Nat.le_refl _) _) (by simp) _) (by simp; omega))
  have HB := Lib.hid (show ∀ o1 o2, Below w.heap.size w ((w.alloc o1).alloc o2) from fun o1 o2 => ((Below.refl _ w).alloc (Nat.le_refl _) _).alloc (by simp) _)
  clear h1 h2
  have hq := fun (W : World) => eql_flags f f' W
  unfold Fl.F5.v at hq
  by_cases hi : i = i'
  · subst hi
    simp only [beq_self_eq_true, Bool.true_and]
    cases hf : f.eq f' with
    | true =>
      rw [hf] at hq
      clear hf
      simp only [Bool.true_and]
      go_enter Tryd.func11, Tryd.ntmps11
      go_wp2_with (go_at_call 14; refine (equalB_any _ _ _ A1 A2 c1 c2 p p' (H1.out _ _) (H2.out _ _)).mono ?_; rintro e w' ⟨rfl, rfl⟩)
      go_ret
      exact ⟨rfl, HB.out _ _⟩
    | false =>
      rw [hf] at hq
      clear hf
      simp only [Bool.false_and]
      go_enter Tryd.func11, Tryd.ntmps11
      go_wp2
      go_ret
      exact ⟨rfl, HB.out _ _⟩
  · have hd : (i == i') = false := beq_eq_false_iff_ne.2 hi
    rw [hd]
    simp only [Bool.false_and]
    go_enter Tryd.func11, Tryd.ntmps11
    go_wp2
    go_ret
    exact ⟨rfl, HB.out _ _⟩

set_option maxRecDepth 100000 in
set_option maxHeartbeats 2000000 in
theorem rsame_any (w : World) (a b : Ru) (A1 A2 : Option Addr) (c1 c2 : Nat) (h1 : RdB w w.heap.size A1 a.p) (h2 : RdB w w.heap.size A2 b.p) :
    Calls Tryd.prog 12 #[a.v A1 c1, b.v A2 c2] w fun e w' => e = .returned (.bool (a.same b)) ∧ Below w.heap.size w w' := by
  obtain ⟨i, f, p⟩ := a
  obtain ⟨i', f', p'⟩ := b
  unfold Ru.v Ru.cells Ru.same
  simp only at h1 h2 ⊢
  have s1 := fun (o1 o2 : Obj) => RdB.string_ (w := (w.alloc o1).alloc o2) (B := w.heap.size) (A := A1) (bs := p) (Reads.alloc (Reads.alloc h1 (Nat.le_refl _) o1) (by simp) o2) (P := Tryd.prog) 24 9 5 Tryd.underlying24 Tryd.underlying5 Tryd.underlying9 c1
  have s2 := fun (o1 o2 : Obj) => RdB.string_ (w := (w.alloc o1).alloc o2) (B := w.heap.size) (A := A2) (bs := p') (Reads.alloc (Reads.alloc h2 (Nat.le_refl _) o1) (by simp) o2) (P := Tryd.prog) 24 9 5 Tryd.underlying24 Tryd.underlying5 Tryd.underlying9 c2
  have HB := Lib.hid (show ∀ o1 o2, Below w.heap.size w ((w.alloc o1).alloc o2) from fun o1 o2 => ((Below.refl _ w).alloc (Nat.le_refl _) _).alloc (by simp) _)
  clear h1 h2
  have hq := fun (W : World) => eql_flags f f' W
  unfold Fl.F5.v at hq
  by_cases hi : i = i'
  · subst hi
    simp only [beq_self_eq_true, Bool.true_and]
    cases hf : f.eq f' with
    | true =>
      rw [hf] at hq
      clear hf
      simp only [Bool.true_and]
      by_cases hp : p = p'
      · subst hp
        simp only [decide_true]
        go_enter Tryd.func12, Tryd.ntmps12
        go_wp2
        go_ret
        exact ⟨rfl, HB.out _ _⟩
      · have hn : (p == p') = false := beq_eq_false_iff_ne.2 hp
        rw [decide_eq_false hp]
        go_enter Tryd.func12, Tryd.ntmps12
        go_wp2
        go_ret
        exact ⟨rfl, HB.out _ _⟩
    | false =>
      rw [hf] at hq
      clear hf s1 s2
      simp only [Bool.false_and]
      go_enter Tryd.func12, Tryd.ntmps12
      go_wp2
      go_ret
      exact ⟨rfl, HB.out _ _⟩
  · have hd : (i == i') = false := beq_eq_false_iff_ne.2 hi
    rw [hd]
    clear s1 s2
    simp only [Bool.false_and]
    go_enter Tryd.func12, Tryd.ntmps12
    go_wp2
    go_ret
    exact ⟨rfl, HB.out _ _⟩
end Go.Proofs.YtkfjnllbjlndlaaDoor
