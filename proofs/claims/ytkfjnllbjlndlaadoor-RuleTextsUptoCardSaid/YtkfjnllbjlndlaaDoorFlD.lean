/- What rule.set and rule.ParseFlags compute. -/
import Derived.Test.YtkfjnllbjlndlaaDoorFlA
import Derived.Test.YtkfjnllbjlndlaaDoorMem
namespace Go.Proofs.YtkfjnllbjlndlaaDoor
open Go.RowKit

def Fl.F5.cells (f : Fl.F5) : Array Value := #[.bool f.i, .bool f.s, .bool f.m, .bool f.o, .bool f.l]

set_option maxHeartbeats 1000000 in
theorem set_any (f : Fl.F5) (c : UInt8) (g : Nat) (w : World) (hB : Bk w g 23 f.cells) :
    Calls Tryd.prog 90 #[.pointer (some ⟨g, 0, none⟩), .int .u8 c.toNat] w fun e w' => e = .returned (.tuple #[]) ∧ Bk w' g 23 (Fl.setIx f (Fl.ix c)).cells ∧ Only g w w' := by
  have hc : c = 105 ∨ c = 115 ∨ c = 109 ∨ c = 111 ∨ c = 108 ∨ (c ≠ 105 ∧ c ≠ 115 ∧ c ≠ 109 ∧ c ≠ 111 ∧ c ≠ 108) := by
    by_cases c0 : c = 105 <;> by_cases c1 : c = 115 <;> by_cases c2 : c = 109 <;> by_cases c3 : c = 111 <;> by_cases c4 : c = 108 <;> simp_all
  obtain ⟨i, s, m, o, l⟩ := f
  have K := Lib.hid hB
  have hcell := hB.cells
  have hfro := hB.frozens
  clear hB
  simp only [Fl.F5.cells] at hcell
  rcases hc with rfl | rfl | rfl | rfl | rfl | ⟨n0, n1, n2, n3, n4⟩
  case inr.inr.inr.inr.inr =>
    have hx : Fl.setIx ⟨i, s, m, o, l⟩ (Fl.ix c) = ⟨i, s, m, o, l⟩ := by simp [Fl.ix, Fl.setIx, n0, n1, n2, n3, n4]
    rw [hx]
    clear hx
    have E0 := u8_lit' c 105 (by omega) n0
    have E1 := u8_lit' c 115 (by omega) n1
    have E2 := u8_lit' c 109 (by omega) n2
    have E3 := u8_lit' c 111 (by omega) n3
    have E4 := u8_lit' c 108 (by omega) n4
    clear n0 n1 n2 n3 n4
    go_enter Tryd.func90, Tryd.ntmps90
    go_wp2
    go_end0
    exact ⟨rfl, K.out, Only.refl _ _⟩
  all_goals
    go_enter Tryd.func90, Tryd.ntmps90
    go_wp2
    go_end0
    exact ⟨rfl, K.out.set _ _, (Only.refl _ _).set (.inl rfl) _⟩

set_option maxHeartbeats 4000000 in
theorem parseFlags_any (x : ByteArray) (hx : x.size ≤ 140737488351232) (w : World) :
    Calls Tryd.prog 58 #[.string x] w fun e w' => e = .returned (.tuple #[(Fl.pf x.data.toList).1.v, .bool (Fl.pf x.data.toList).2]) ∧ Below w.heap.size w w' := by
  go_enter Tryd.func58, Tryd.ntmps58
  go_wp2
  go_loopw [8] (fun k wr => ∃ (n : Nat) (f : Fl.F5), n ≤ x.size ∧ k = .int .i64 n ∧ f = Fl.setAll (x.data.toList.take n) Fl.zero ∧ Bk wr w.heap.size 23 Fl.zero.cells ∧ Bk wr (w.heap.size + 1) 23 f.cells ∧ Below w.heap.size w wr) (fun k _ => x.size - (intOf k).toNat)
  case atStart => exact ⟨0, _, by omega, rfl, rfl, (Bk.new _ _ _).alloc _, Bk.at_new _ _ _ _ (by simp), ((Below.refl _ _).alloc (Nat.le_refl _) _).alloc (by simp) _⟩
  case round =>
    obtain ⟨n, f, hn, rfl, hf, hb0, hb1, hb⟩ := hrel
    have HF := Lib.hid hf
    have HX := Lib.hid (And.intro hb0 (And.intro hb1 hb))
    clear hf hb0 hb hb1
    by_cases hlt : n < x.size
    · go_wp2_with (go_at_call 90; refine (set_any f _ _ _ HX.out.2.1).mono ?_; rintro e w1 ⟨rfl, k1, k2⟩)
      go_roundw
      case rel =>
        refine ⟨n + 1, _, by omega, by go_num, rfl, ?_, ?_, ?_⟩
        · exact HX.out.1.grown k2 (by intro e; injection e with e; omega)
        · rw [take_snoc _ _ hlt]
          simp only [Fl.setAll, List.foldl_append, List.foldl_cons, List.foldl_nil]
          rw [HF.out] at k1
          exact k1
        · exact Only.below HX.out.2.2 k2 (by omega) HX.out.2.2.size
      case measure => simp [intOf]; omega
    · have hcell := HX.out.2.1.cells
      simp only [Fl.F5.cells] at hcell
      go_wp2_with (go_at_call 37; refine (flags_any f _).mono ?_; rintro e w1 ⟨rfl, k1⟩; have hcell0 := (HX.out.1.kept k1).cells; have hcell1 := (HX.out.2.1.kept k1).cells; have hfro := (HX.out.1.kept k1).frozens; simp only [Fl.F5.cells] at hcell0 hcell1)
      all_goals
        have kk := fun a b c d e => (((((HX.out.1.kept k1).set 0 a).set 1 b).set 2 c).set 3 d).set 4 e
        have kc := fun a b c d e => (kk a b c d e).cells
        simp [Fl.F5.cells] at kc
        have hf : f = Fl.setAll x.data.toList Fl.zero := by rw [HF.out, List.take_of_length_le (by rw [ba_size]; omega)]
        have hbel := fun a b c d e => (((((below_then HX.out.2.2 k1 HX.out.2.2.size).setCell (p := ⟨w.heap.size, 0, none⟩) (Nat.le_refl _) a).setCell (p := ⟨w.heap.size, 1, none⟩) (Nat.le_refl _) b).setCell (p := ⟨w.heap.size, 2, none⟩) (Nat.le_refl _) c).setCell (p := ⟨w.heap.size, 3, none⟩) (Nat.le_refl _) d).setCell (p := ⟨w.heap.size, 4, none⟩) (Nat.le_refl _) e
      · have hpf : Fl.pf x.data.toList = (Fl.zero, false) := by
          unfold Fl.pf
          rw [← hf, if_neg]
          intro he
          have hh : (!Fl.lets f == x.toList) = true := by assumption
          rw [show x.toList = x.data.toList from ba_toList x, ← he] at hh
          simp at hh
        refine bodyPost_ret (v := .tuple #[.agg #[.bool false, .bool false, .bool false, .bool false, .bool false], .bool false]) (by simp [results, Tryd.results58, go_sem, kc]) rfl ⟨by rw [hpf]; rfl, hbel _ _ _ _ _⟩
      · have hpf : Fl.pf x.data.toList = (f, true) := by
          have hh : (!Fl.lets f == x.toList) = false := by assumption
          unfold Fl.pf
          rw [← hf, if_pos]
          rw [show x.toList = x.data.toList from ba_toList x] at hh
          simpa using hh
        refine bodyPost_ret (v := .tuple #[.agg #[.bool f.i, .bool f.s, .bool f.m, .bool f.o, .bool f.l], .bool true]) (by simp [results, Tryd.results58, go_sem, kc]) rfl ⟨by rw [hpf]; rfl, hbel _ _ _ _ _⟩
end Go.Proofs.YtkfjnllbjlndlaaDoor
