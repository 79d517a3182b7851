/- What riddleref20.Flags and riddleref20.with compute. -/
import Derived.Test.YtkfjnllbjlndlaaDoorFlA
import Derived.Test.YtkfjnllbjlndlaaDoorMem
import Derived.Test.YtkfjnllbjlndlaaDoorFlB
namespace Go.Proofs.YtkfjnllbjlndlaaDoor
open Go.RowKit

theorem ismolx0 : ((⟨#[105, 115, 109, 111, 108]⟩ : ByteArray).extract 0 1) = ⟨#[105]⟩ := by decide
theorem ismolx1 : ((⟨#[105, 115, 109, 111, 108]⟩ : ByteArray).extract 1 2) = ⟨#[115]⟩ := by decide
theorem ismolx2 : ((⟨#[105, 115, 109, 111, 108]⟩ : ByteArray).extract 2 3) = ⟨#[109]⟩ := by decide
theorem ismolx3 : ((⟨#[105, 115, 109, 111, 108]⟩ : ByteArray).extract 3 4) = ⟨#[111]⟩ := by decide
theorem ismolx4 : ((⟨#[105, 115, 109, 111, 108]⟩ : ByteArray).extract 4 5) = ⟨#[108]⟩ := by decide
attribute [local go_sem] ismolx0 ismolx1 ismolx2 ismolx3 ismolx4

set_option maxHeartbeats 1000000 in
theorem with_any (f : Fl.F5) (k : Int) (h0 : 0 ≤ k) (h1 : k ≤ 4) (w : World) :
    Calls Tryd.prog 67 #[f.v, .int .i64 k] w fun e w' => e = .returned (Fl.setIx f k).v ∧ Below w.heap.size w w' := by
  obtain ⟨i, s, m, o, l⟩ := f
  have hk : k = 0 ∨ k = 1 ∨ k = 2 ∨ k = 3 ∨ k = 4 := by omega
  rcases hk with rfl | rfl | rfl | rfl | rfl <;>
  · show Calls Tryd.prog 67 #[.agg #[_, _, _, _, _], _] w _
    go_enter Tryd.func67, Tryd.ntmps67
    go_wp2
    go_returns
    exact ⟨rfl, ((Below.refl _ _).alloc (Nat.le_refl _) _).alloc (by simp) _⟩

def Fl.pre (f : Fl.F5) (k : Nat) : List UInt8 :=
  Fl.letters (f.i && decide (0 < k)) (f.s && decide (1 < k)) (f.m && decide (2 < k)) (f.o && decide (3 < k)) (f.l && decide (4 < k))

def Fl.letter (n : Nat) : List UInt8 := if n = 0 then [105] else if n = 1 then [115] else if n = 2 then [109] else if n = 3 then [111] else [108]
theorem Fl.pre_hit (f : Fl.F5) (n : Nat) (h : f.get (n : Int) = true) (hn : n ≤ 4 := by omega) : Fl.pre f (n + 1) = Fl.pre f n ++ Fl.letter n := by
  obtain ⟨i, s, m, o, l⟩ := f
  have hk : n = 0 ∨ n = 1 ∨ n = 2 ∨ n = 3 ∨ n = 4 := by omega
  rcases hk with rfl | rfl | rfl | rfl | rfl <;> simp_all [Fl.pre, Fl.letters, Fl.F5.get, Fl.letter]
theorem Fl.pre_miss (f : Fl.F5) (n : Nat) (h : f.get (n : Int) = false) (hn : n ≤ 4 := by omega) : Fl.pre f (n + 1) = Fl.pre f n := by
  obtain ⟨i, s, m, o, l⟩ := f
  have hk : n = 0 ∨ n = 1 ∨ n = 2 ∨ n = 3 ∨ n = 4 := by omega
  rcases hk with rfl | rfl | rfl | rfl | rfl <;> simp_all [Fl.pre, Fl.letters, Fl.F5.get]
theorem Fl.pre_size (f : Fl.F5) (n : Nat) : (Fl.pre f n).length ≤ 5 := by
  simp only [Fl.pre, Fl.letters, List.length_append]
  repeat' split
  all_goals simp

set_option maxHeartbeats 4000000 in
theorem refFlags_any (f : Fl.F5) (w : World) :
    Calls Tryd.prog 62 #[f.v] w fun e w' => e = .returned (.string ⟨(Fl.lets f).toArray⟩) ∧ Below w.heap.size w w' := by
  have hfin : Fl.pre f 5 = Fl.lets f := by simp [Fl.pre, Fl.lets]
  have H := Lib.hid hfin
  clear hfin
  obtain ⟨i, s, m, o, l⟩ := f
  show Calls Tryd.prog 62 #[.agg #[_, _, _, _, _]] w _
  go_enter Tryd.func62, Tryd.ntmps62
  go_wp2
  go_loopw [3, 4] (fun t k wr => ∃ n : Nat, n ≤ 5 ∧ k = .int .i64 n ∧ t = .string ⟨(Fl.pre ⟨i, s, m, o, l⟩ n).toArray⟩ ∧ Below (w.heap.size + 1) (w.alloc (.cells #[.bool i, .bool s, .bool m, .bool o, .bool l] 23)) wr) (fun _ k _ => 5 - (intOf k).toNat)
  case atStart => exact ⟨0, by omega, rfl, by simp [Fl.pre, Fl.letters], Below.refl _ _⟩
  case round =>
    obtain ⟨n, hn, rfl, rfl, hb⟩ := hrel
    have c0 : wr.cell? ⟨w.heap.size, 0, none⟩ = some (.bool i) := (hb.cell (p := ⟨w.heap.size, 0, none⟩) (by simp)).trans (by simp [go_sem])
    have c1 : wr.cell? ⟨w.heap.size, 1, none⟩ = some (.bool s) := (hb.cell (p := ⟨w.heap.size, 1, none⟩) (by simp)).trans (by simp [go_sem])
    have c2 : wr.cell? ⟨w.heap.size, 2, none⟩ = some (.bool m) := (hb.cell (p := ⟨w.heap.size, 2, none⟩) (by simp)).trans (by simp [go_sem])
    have c3 : wr.cell? ⟨w.heap.size, 3, none⟩ = some (.bool o) := (hb.cell (p := ⟨w.heap.size, 3, none⟩) (by simp)).trans (by simp [go_sem])
    have c4 : wr.cell? ⟨w.heap.size, 4, none⟩ = some (.bool l) := (hb.cell (p := ⟨w.heap.size, 4, none⟩) (by simp)).trans (by simp [go_sem])
    have HB := Lib.hid hb
    clear hb
    have hsz : (Fl.pre ⟨i, s, m, o, l⟩ n).length ≤ 5 := Fl.pre_size _ _
    have hn' : n = 0 ∨ n = 1 ∨ n = 2 ∨ n = 3 ∨ n = 4 ∨ n = 5 := by omega
    rcases hn' with rfl | rfl | rfl | rfl | rfl | rfl
    case inr.inr.inr.inr.inr =>
      go_wp2
      go_ret
      refine ⟨by rw [← H.out]; rfl, ?_⟩
      exact ((Below.refl _ _).alloc (Nat.le_refl _) _).trans (HB.out.mono (by omega))
    all_goals
      go_wp2_with (go_at_call 93; refine (flag_any ⟨_, _, _, _, _⟩ _ (by omega) (by omega) _).mono ?_; rintro e w' ⟨rfl, hb1⟩)
    all_goals
      refine ⟨⟨_ + 1, by omega, rfl, ?_, HB.out.trans (hb1.mono (by have := HB.out.size; simp at this; omega))⟩, by simp [intOf]⟩
      first
        | exact congrArg (fun q : List UInt8 => Value.string ⟨q.toArray⟩) (Fl.pre_miss _ _ ‹_›).symm
        | (refine (congrArg Value.string (ba_app _ _)).trans ?_; exact congrArg (fun q : List UInt8 => Value.string ⟨q.toArray⟩) (Fl.pre_hit _ _ ‹_›).symm)
end Go.Proofs.YtkfjnllbjlndlaaDoor
