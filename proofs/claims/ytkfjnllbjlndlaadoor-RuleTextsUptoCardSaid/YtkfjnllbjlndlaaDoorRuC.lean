/- rule.Clone. -/
import Derived.Test.YtkfjnllbjlndlaaDoorRuA
import Derived.Test.YtkfjnllbjlndlaaDoorShut
namespace Go.Proofs.YtkfjnllbjlndlaaDoor
open Go.RowKit

theorem same_cells {w : World} {g : Nat} {t : TypeId} {r : Ru} {A : Option Addr} {c : Nat} (h : Bk w g t (r.cells A c)) :
    w.cell? ⟨g, 0, none⟩ = some (.int .i64 r.id) ∧ w.cell? ⟨g, 1, none⟩ = some (.bool r.f.i) ∧ w.cell? ⟨g, 2, none⟩ = some (.bool r.f.s) ∧ w.cell? ⟨g, 3, none⟩ = some (.bool r.f.m) ∧ w.cell? ⟨g, 4, none⟩ = some (.bool r.f.o) ∧ w.cell? ⟨g, 5, none⟩ = some (.bool r.f.l) ∧ w.cell? ⟨g, 6, none⟩ = some (.slice A r.p.length c) :=
  ⟨h.cells 0, h.cells 1, h.cells 2, h.cells 3, h.cells 4, h.cells 5, h.cells 6⟩
theorem rule_end {fn : Func} {Q : Ending → World → Prop} {tmps : Array Value} {W : World} {z : Nat} {r : Ru} {A : Option Addr} {c : Nat} (hr : fn.results = #[.cell 2 26]) (hz : Bk W z 26 (r.cells A c))
    (h2 : tmps[2]?.getD undef = .pointer (some ⟨z, 0, none⟩)) (hQ : Q (.returned (r.v A c)) W) : bodyPost Tryd.prog fn Q Exit.ret { tmps := tmps, defers := [] } W := by
  obtain ⟨a0, a1, a2, a3, a4, a5, a6⟩ := same_cells hz
  exact bodyPost_ret (v := r.v A c) (by simp [results, hr, go_sem, h2, a0, a1, a2, a3, a4, a5, a6, Ru.v, Ru.cells]) rfl hQ

set_option maxRecDepth 100000 in
set_option maxHeartbeats 4000000 in
theorem cloneR_any (w : World) (r : Ru) (A : Option Addr) (c : Nat) (h : RdB w w.heap.size A r.p) (hn : r.p.length ≤ 140737488351232) :
    Calls Tryd.prog 15 #[r.v A c] w fun e w' => (∃ A' c', e = .returned (r.v A' c') ∧ w'.ownsRow w.heap.size 5 1 (.slice A' r.p.length c') r.p.length (bcells r.p)) ∧ Below w.heap.size w w' := by
  have HR := Lib.hid h
  clear h
  unfold Ru.v Ru.cells
  go_enter Tryd.func15, Tryd.ntmps15
  refine shut_post fun E0 HQ => ?_
  go_wp2_with (go_at_call 38; refine (clone_any _ _ A c r.p (Reads.more (Reads.alloc (Reads.alloc HR.out (Nat.le_refl _) _) (by simp) _) (Nat.le_refl _)) (by first | (simp; done) | (simp; omega)) hn).mono ?_; rintro e w1 ⟨v', rfl, ho, hb⟩; obtain ⟨A', c', rfl⟩ := own_slice ho; have HO := Lib.hid ho; have HB := Lib.hid hb; have hk1 := ((Bk.new w 26 (r.cells A c)).alloc (.cells #[.int .i64 0, .bool false, .bool false, .bool false, .bool false, .bool false, .slice none 0 0] 26)).kept hb; have hk2 := (Bk.at_new (w.alloc (.cells (r.cells A c) 26)) 26 #[.int .i64 0, .bool false, .bool false, .bool false, .bool false, .bool false, .slice none 0 0] (w.heap.size + 1) (by simp)).kept hb; unfold Ru.cells at hk1; have HK1 := Lib.hid hk1; have HK2 := Lib.hid hk2; have c1 := hk1.cells; have f1 := hk1.frozens; have c2 := hk2.cells; have f2 := hk2.frozens; have HS1 := Lib.hid (show w.heap.size + 2 ≤ w1.heap.size by (have := hb.size; simpa using this)); clear ho hb hk1 hk2)
  show E0 _ (setN (w1.setCell ⟨w.heap.size, 6, none⟩ (.slice A' r.p.length c')) (w.heap.size + 1) 0 [.int .i64 r.id, .bool r.f.i, .bool r.f.s, .bool r.f.m, .bool r.f.o, .bool r.f.l, .slice A' r.p.length c'])
  refine HQ.out _ _ ?_
  have hb := (HK2.out.far (p := ⟨w.heap.size, 6, none⟩) (by simp) (.slice A' r.p.length c')).putN [.int .i64 r.id, .bool r.f.i, .bool r.f.s, .bool r.f.m, .bool r.f.o, .bool r.f.l, .slice A' r.p.length c'] rfl
  refine rule_end (A := A') (c := c') rfl hb rfl ⟨⟨A', c', rfl, ?_⟩, ?_⟩
  · exact own_mono (own_setN _ (own_set HO.out (p := ⟨w.heap.size, 6, none⟩) (by rw [World.size_alloc, World.size_alloc]; show w.heap.size < _; omega) _) 0 (by rw [World.size_alloc, World.size_alloc]; omega)) (by rw [World.size_alloc, World.size_alloc]; omega)
  · exact below_setN _ ((below_then (((Below.refl _ w).alloc (Nat.le_refl _) _).alloc (by simp) _) HB.out (by rw [World.size_alloc, World.size_alloc]; omega)).setCell (p := ⟨w.heap.size, 6, none⟩) (Nat.le_refl _) _) 0 (by omega)
end Go.Proofs.YtkfjnllbjlndlaaDoor
