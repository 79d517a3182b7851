/- What riddleref20.ParseFlags computes. -/
import Derived.Test.YtkfjnllbjlndlaaFlB
import Derived.Test.YtkfjnllbjlndlaaFlC
import Derived.Test.YtkfjnllbjlndlaaFlD
namespace Go.Proofs.Ytkfjnllbjlndlaa
open Go.RowKit

def Fl.res (o : Option (Fl.F5 × Int)) : Fl.F5 × Bool := match o with | some (f, _) => (f, true) | none => (Fl.zero, false)

theorem Fl.rd_stop (a b : List UInt8) (k : Int) (f : Fl.F5) (h : Fl.rd a k f = none) : Fl.rd (a ++ b) k f = none := by
  induction a generalizing k f with
  | nil => simp [Fl.rd] at h
  | cons c cs ih =>
    simp only [List.cons_append, Fl.rd] at h ⊢
    split
    · rename_i hk; rw [if_pos hk] at h; exact ih _ _ h
    · rfl

theorem Fl.rd_low (a : List UInt8) (k : Int) (f g : Fl.F5) (j : Int) (h0 : 0 ≤ k) (h5 : k ≤ 5) (h : Fl.rd a k f = some (g, j)) : 0 ≤ j ∧ j ≤ 5 := by
  induction a generalizing k f with
  | nil => simp only [Fl.rd, Option.some.injEq, Prod.mk.injEq] at h; omega
  | cons c cs ih =>
    simp only [Fl.rd] at h
    split at h
    · have := Fl.ix_range c; exact ih _ _ (by omega) (by omega) h
    · cases h

set_option maxHeartbeats 4000000 in
theorem refParseFlags_any (x : ByteArray) (hx : x.size ≤ 140737488351232) (w : World) :
    Calls Try.prog 9 #[.string x] w fun e w' => e = .returned (.tuple #[(Fl.res (Fl.rd x.data.toList 0 Fl.zero)).1.v, .bool (Fl.res (Fl.rd x.data.toList 0 Fl.zero)).2]) ∧ Below w.heap.size w w' := by
  go_enter Try.func9, Try.ntmps9
  go_wp2
  go_loopw [5, 6] (fun q k wr => ∃ (n : Nat) (f : Fl.F5) (j : Int), n ≤ x.size ∧ k = .int .i64 n ∧ q = .int .i64 j ∧ Fl.rd (x.data.toList.take n) 0 Fl.zero = some (f, j) ∧ Bk wr w.heap.size 23 Fl.zero.cells ∧ Bk wr (w.heap.size + 1) 23 f.cells ∧ Below w.heap.size w wr) (fun _ k _ => x.size - (intOf k).toNat)
  case atStart => exact ⟨0, _, _, by omega, rfl, rfl, rfl, (Bk.new _ _ _).alloc _, Bk.at_new _ _ _ _ (by simp), ((Below.refl _ _).alloc (Nat.le_refl _) _).alloc (by simp) _⟩
  case round =>
    obtain ⟨n, f, j, hn, rfl, rfl, hf, hb0, hb1, hb⟩ := hrel
    have hj := Fl.rd_low _ _ _ _ _ (by omega) (by omega) hf
    have HF := Lib.hid hf
    have HX := Lib.hid (And.intro hb0 (And.intro hb1 hb))
    obtain ⟨hj0, hj5⟩ := hj
    clear hf hb0 hb hb1
    have hcell0 := HX.out.1.cells
    have hcell1 := HX.out.2.1.cells
    have hfro0 := HX.out.1.frozens
    have hfro1 := HX.out.2.1.frozens
    simp only [Fl.F5.cells] at hcell0 hcell1
    by_cases hlt : n < x.size
    · have hix := Fl.ix_range x[n]
      have hst := Fl.rd_snoc (x.data.toList.take n) x[n] 0 Fl.zero
      rw [HF.out, ← take_snoc _ _ hlt] at hst
      simp only [Option.bind_some] at hst
      by_cases hk : j ≤ Fl.ix x[n]
      · have hc : (if j ≤ Fl.ix x[n] then Fl.ix x[n] else -1) = Fl.ix x[n] := if_pos hk
        rw [if_pos hk] at hst
        have HS := Lib.hid hst
        clear hst
        have HC := Lib.hid hc
        clear hc
        go_wp2_with (first | (go_at_call 26; refine (next_any x[n] j hj0 hj5 _).mono ?_; rintro e w1 ⟨rfl, rfl⟩; rw [HC.out]) | (go_at_call 27; refine (with_any f (Fl.ix x[n]) (by omega) (by omega) _).mono ?_; rintro e w1 ⟨rfl, k1⟩; have hcellA := (HX.out.2.1.kept k1).cells; have hfroA := (HX.out.2.1.kept k1).frozens; simp only [Fl.F5.cells] at hcellA; unfold Fl.F5.v))
        refine ⟨⟨n + 1, _, _, by omega, by go_num, rfl, HS.out, ?_, ?_, ?_⟩, by simp [intOf]; omega⟩
        · exact Bk.farN [_, _, _, _, _] (HX.out.1.kept k1) 0 (by omega)
        · exact Bk.putN (HX.out.2.1.kept k1) [_, _, _, _, _]
        · exact below_setN [_, _, _, _, _] (below_then HX.out.2.2 k1 HX.out.2.2.size) 0 (by omega)
      · have hc : (if j ≤ Fl.ix x[n] then Fl.ix x[n] else -1) = -1 := if_neg hk
        rw [if_neg hk] at hst
        have hno : Fl.rd x.data.toList 0 Fl.zero = none := by
          rw [← List.take_append_drop (n + 1) x.data.toList]
          exact Fl.rd_stop _ _ _ _ hst
        clear hst
        have HC := Lib.hid hc
        clear hc
        have HN := Lib.hid hno
        clear hno
        go_wp2_with (go_at_call 26; refine (next_any x[n] j hj0 hj5 _).mono ?_; rintro e w1 ⟨rfl, rfl⟩; rw [HC.out])
        have kk := Bk.putN HX.out.1 [.bool false, .bool false, .bool false, .bool false, .bool false]
        have kc := kk.cells
        simp [setN] at kc
        refine bodyPost_ret (v := .tuple #[.agg #[.bool false, .bool false, .bool false, .bool false, .bool false], .bool false]) (by simp [results, Try.results9, go_sem, kc]) rfl ⟨by rw [HN.out]; rfl, ?_⟩
        exact below_setN [_, _, _, _, _] HX.out.2.2 0 (Nat.le_refl _)
    · have hr : Fl.rd x.data.toList 0 Fl.zero = some (f, j) := by rw [← HF.out, List.take_of_length_le (by rw [ba_size]; omega)]
      have HR := Lib.hid hr
      clear hr
      go_wp2
      have kk := Bk.putN HX.out.1 [.bool f.i, .bool f.s, .bool f.m, .bool f.o, .bool f.l]
      have kc := kk.cells
      simp [setN] at kc
      refine bodyPost_ret (v := .tuple #[.agg #[.bool f.i, .bool f.s, .bool f.m, .bool f.o, .bool f.l], .bool true]) (by simp [results, Try.results9, go_sem, kc]) rfl ⟨by rw [HR.out]; rfl, ?_⟩
      exact below_setN [_, _, _, _, _] HX.out.2.2 0 (Nat.le_refl _)
end Go.Proofs.Ytkfjnllbjlndlaa
