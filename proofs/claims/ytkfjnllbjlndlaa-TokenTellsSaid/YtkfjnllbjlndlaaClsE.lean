/- Word and Space; the class of one byte by the reference. -/
import Derived.Test.YtkfjnllbjlndlaaClsD
namespace Go.Proofs.Ytkfjnllbjlndlaa
open Go.RowKit

set_option maxRecDepth 100000 in
set_option maxHeartbeats 1000000 in
theorem space_cls (w : World) : Calls Try.prog 55 #[] w fun e w' => e = .returned Cl.space.v ∧ Below w.heap.size w w' := by
  have K := Lib.hid (Kp.new w 47 Cl.zero.cells)
  go_enter Try.func55, Try.ntmps55
  go_wp2_with (first | (go_at_call 63; refine (range_cls _ 9 13 (by omega) (by omega) (by omega) (by omega)).mono ?_; rintro e w1 ⟨rfl, hb1⟩; unfold Cl.v; replace K := Lib.hid (Kp.step (K.out) hb1); have hcA := K.out.1.cells; have hfA := K.out.1.frozens; clear hb1; simp only [Cl.cells, Cl.zero] at hcA) | (go_at_call 61; refine (of_cls _ _ _ [32] (by rw [World.size_alloc]; exact RdB.lit _ [32] _ (0, 0)) (by simp)).mono ?_; rintro e w1 ⟨rfl, hb1⟩; unfold Cl.v; replace K := Lib.hid (Kp.step (K.out.alloc _) hb1); have hcA := K.out.1.cells; have hfA := K.out.1.frozens; clear hb1; simp only [Cl.cells, Cl.zero] at hcA) | (go_at_call 62; refine (union_cls _ _ _ [Cl.range 9 13, Cl.of [32]] (Bk.new _ _ _) (by simp)).mono ?_; rintro e w1 ⟨rfl, hb1⟩; unfold Cl.v; replace K := Lib.hid (Kp.step (K.out.alloc _) hb1); have hcA := K.out.1.cells; have hfA := K.out.1.frozens; clear hb1; simp only [Cl.cells, Cl.zero] at hcA; rw [show Cl.union [Cl.range 9 13, Cl.of [32]] = Cl.space from rfl]))
  have kk := Bk.putN K.out.1 [.int .u64 Cl.space.a, .int .u64 Cl.space.b, .int .u64 Cl.space.c, .int .u64 Cl.space.d]
  have kc := kk.cells
  simp [setN] at kc
  refine bodyPost_ret (v := Cl.space.v) (by simp [results, Try.results55, go_sem, kc, Cl.v]) rfl ⟨rfl, ?_⟩
  exact below_setN [_, _, _, _] K.out.2 0 (Nat.le_refl _)

set_option maxRecDepth 100000 in
set_option maxHeartbeats 1000000 in
theorem refSpace_cls (w : World) : Calls Try.prog 75 #[] w fun e w' => e = .returned Cl.space.v ∧ Below w.heap.size w w' := by
  have K := Lib.hid (Kp.new w 47 Cl.zero.cells)
  go_enter Try.func75, Try.ntmps75
  go_wp2_with (first | (go_at_call 83; refine (refRange_cls _ 9 13 (by omega) (by omega) (by omega) (by omega)).mono ?_; rintro e w1 ⟨rfl, hb1⟩; unfold Cl.v; replace K := Lib.hid (Kp.step (K.out) hb1); have hcA := K.out.1.cells; have hfA := K.out.1.frozens; clear hb1; simp only [Cl.cells, Cl.zero] at hcA) | (go_at_call 87; refine (with_cls (Cl.range 9 13) 32 (by omega) (by omega) _).mono ?_; rintro e w1 ⟨rfl, hb1⟩; unfold Cl.v; replace K := Lib.hid (Kp.step (K.out) hb1); have hcA := K.out.1.cells; have hfA := K.out.1.frozens; clear hb1; simp only [Cl.cells, Cl.zero] at hcA; rw [space_b]))
  have kk := Bk.putN K.out.1 [.int .u64 Cl.space.a, .int .u64 Cl.space.b, .int .u64 Cl.space.c, .int .u64 Cl.space.d]
  have kc := kk.cells
  simp [setN] at kc
  refine bodyPost_ret (v := Cl.space.v) (by simp [results, Try.results75, go_sem, kc, Cl.v]) rfl ⟨rfl, ?_⟩
  exact below_setN [_, _, _, _] K.out.2 0 (Nat.le_refl _)

set_option maxRecDepth 100000 in
set_option maxHeartbeats 1000000 in
theorem word_cls (w : World) : Calls Try.prog 54 #[] w fun e w' => e = .returned Cl.word.v ∧ Below w.heap.size w w' := by
  have K := Lib.hid (Kp.new w 47 Cl.zero.cells)
  go_enter Try.func54, Try.ntmps54
  go_wp2_with (first | (go_at_call 63; refine (range_cls _ _ _ (by omega) (by omega) (by omega) (by omega)).mono ?_; rintro e w1 ⟨rfl, hb1⟩; unfold Cl.v; replace K := Lib.hid (Kp.step (K.out) hb1); have hcA := K.out.1.cells; have hfA := K.out.1.frozens; clear hb1; simp only [Cl.cells, Cl.zero] at hcA) | (go_at_call 53; refine (digit_cls _).mono ?_; rintro e w1 ⟨rfl, hb1⟩; unfold Cl.v; replace K := Lib.hid (Kp.step (K.out) hb1); have hcA := K.out.1.cells; have hfA := K.out.1.frozens; clear hb1; simp only [Cl.cells, Cl.zero] at hcA) | (go_at_call 61; refine (of_cls _ _ _ [95] (by rw [World.size_alloc]; exact RdB.lit _ [95] _ (0, 0)) (by simp)).mono ?_; rintro e w1 ⟨rfl, hb1⟩; unfold Cl.v; replace K := Lib.hid (Kp.step (K.out.alloc _) hb1); have hcA := K.out.1.cells; have hfA := K.out.1.frozens; clear hb1; simp only [Cl.cells, Cl.zero] at hcA) | (go_at_call 62; refine (union_cls _ _ _ [Cl.range 97 122, Cl.range 65 90, Cl.digit, Cl.of [95]] (Bk.new _ _ _) (by simp)).mono ?_; rintro e w1 ⟨rfl, hb1⟩; unfold Cl.v; replace K := Lib.hid (Kp.step (K.out.alloc _) hb1); have hcA := K.out.1.cells; have hfA := K.out.1.frozens; clear hb1; simp only [Cl.cells, Cl.zero] at hcA; rw [show Cl.union [Cl.range 97 122, Cl.range 65 90, Cl.digit, Cl.of [95]] = Cl.word from rfl]))
  have kk := Bk.putN K.out.1 [.int .u64 Cl.word.a, .int .u64 Cl.word.b, .int .u64 Cl.word.c, .int .u64 Cl.word.d]
  have kc := kk.cells
  simp [setN] at kc
  refine bodyPost_ret (v := Cl.word.v) (by simp [results, Try.results54, go_sem, kc, Cl.v]) rfl ⟨rfl, ?_⟩
  exact below_setN [_, _, _, _] K.out.2 0 (Nat.le_refl _)

set_option maxRecDepth 100000 in
set_option maxHeartbeats 1000000 in
theorem refOf_cls (w : World) (g : Nat) (b : UInt8) (cap : Nat) (h : w.cell? ⟨g, 0, none⟩ = some (.int .u8 b.toNat)) :
    Calls Try.prog 86 #[.slice (some ⟨g, 0, none⟩) 1 cap] w fun e w' => e = .returned (Cl.of [b]).v ∧ Below w.heap.size w w' := by
  have hg := World.block_lt_of_cell? w _ h
  have hc0 : 0 ≤ (b.toNat : Int) := by omega
  have hc1 : (b.toNat : Int) ≤ 255 := by have := b.toNat_lt; omega
  have hcell := fun o o' => Lib.cell?_alloc_some o' (Lib.cell?_alloc_some o h)
  have k1 := fun o => Kp.new (w.alloc o) 47 Cl.zero.cells
  go_enter Try.func86, Try.ntmps86
  go_wp2
  refine wp_loop_rounds 2 ?_
  rw [rounds_succ]; go_wp2
  have hB1 := Lib.hid (Bk.drew (Bk.at_new (w.alloc (.cells Cl.zero.cells 47)) 47 Cl.zero.cells (w.heap.size + 1) (by simp)))
  have hB0 := Lib.hid (Bk.drew ((Bk.new w 47 Cl.zero.cells).alloc (.cells Cl.zero.cells 47)))
  have hbb := Lib.hid ((((Below.refl w.heap.size w).alloc (Nat.le_refl _) (.cells Cl.zero.cells 47)).alloc (by simp) (.cells Cl.zero.cells 47)).drew)
  go_region_with (first | (go_at_call 87; refine (with_cls Cl.zero b.toNat hc0 hc1 _).mono ?_; rintro e w1 ⟨rfl, hb1⟩; unfold Cl.v; have HB1 := Lib.hid hb1; have hcA := (hB1.out.kept hb1).cells; have hfA := (hB1.out.kept hb1).frozens; have hcZ := (hB0.out.kept hb1).cells; have hfZ := (hB0.out.kept hb1).frozens; clear hb1; simp only [Cl.cells, Cl.zero] at hcA hcZ))
  all_goals
    go_wp2
    rw [rounds_succ]
    go_wp2
    have k1 := Bk.farN (g' := w.heap.size + 1) [.int .u64 (Cl.zero.set b.toNat).a, .int .u64 (Cl.zero.set b.toNat).b, .int .u64 (Cl.zero.set b.toNat).c, .int .u64 (Cl.zero.set b.toNat).d] (hB0.out.kept HB1.out) 0 (by omega)
    have kk := Bk.putN k1 [.int .u64 (Cl.zero.set b.toNat).a, .int .u64 (Cl.zero.set b.toNat).b, .int .u64 (Cl.zero.set b.toNat).c, .int .u64 (Cl.zero.set b.toNat).d]
    have kc := kk.cells
    simp [setN] at kc
    refine bodyPost_ret (v := (Cl.zero.set b.toNat).v) (by simp [results, Try.results86, go_sem, kc, Cl.v]) rfl ⟨rfl, ?_⟩
    exact below_setN [_, _, _, _] (below_setN (g := w.heap.size + 1) [_, _, _, _] (below_then hbb.out HB1.out hbb.out.size) 0 (by omega)) 0 (Nat.le_refl _)

set_option maxRecDepth 100000 in
set_option maxHeartbeats 1000000 in
theorem refWord_cls (w : World) : Calls Try.prog 74 #[] w fun e w' => e = .returned Cl.word.v ∧ Below w.heap.size w w' := by
  have K := Lib.hid (Kp.new w 47 Cl.zero.cells)
  go_enter Try.func74, Try.ntmps74
  go_wp2_with (first | (go_at_call 83; refine (refRange_cls _ _ _ (by omega) (by omega) (by omega) (by omega)).mono ?_; rintro e w1 ⟨rfl, hb1⟩; unfold Cl.v; replace K := Lib.hid (Kp.step (K.out) hb1); have hcA := K.out.1.cells; have hfA := K.out.1.frozens; clear hb1; simp only [Cl.cells, Cl.zero] at hcA) | (go_at_call 73; refine (refDigit_cls _).mono ?_; rintro e w1 ⟨rfl, hb1⟩; unfold Cl.v; replace K := Lib.hid (Kp.step (K.out) hb1); have hcA := K.out.1.cells; have hfA := K.out.1.frozens; clear hb1; simp only [Cl.cells, Cl.zero] at hcA) | (go_at_call 86; refine (refOf_cls _ _ 95 _ (cell_of (Bk.new _ _ _) 0 _ rfl)).mono ?_; rintro e w1 ⟨rfl, hb1⟩; unfold Cl.v; replace K := Lib.hid (Kp.step (K.out.alloc _) hb1); have hcA := K.out.1.cells; have hfA := K.out.1.frozens; clear hb1; simp only [Cl.cells, Cl.zero] at hcA) | (go_at_call 81; refine (refUnion_cls _ _ _ [Cl.range 97 122, Cl.range 65 90, Cl.digit, Cl.of [95]] (Bk.new _ _ _) (by simp)).mono ?_; rintro e w1 ⟨rfl, hb1⟩; unfold Cl.v; replace K := Lib.hid (Kp.step (K.out.alloc _) hb1); have hcA := K.out.1.cells; have hfA := K.out.1.frozens; clear hb1; simp only [Cl.cells, Cl.zero] at hcA; rw [show Cl.union [Cl.range 97 122, Cl.range 65 90, Cl.digit, Cl.of [95]] = Cl.word from rfl]))
  have kk := Bk.putN K.out.1 [.int .u64 Cl.word.a, .int .u64 Cl.word.b, .int .u64 Cl.word.c, .int .u64 Cl.word.d]
  have kc := kk.cells
  simp [setN] at kc
  refine bodyPost_ret (v := Cl.word.v) (by simp [results, Try.results74, go_sem, kc, Cl.v]) rfl ⟨rfl, ?_⟩
  exact below_setN [_, _, _, _] K.out.2 0 (Nat.le_refl _)
end Go.Proofs.Ytkfjnllbjlndlaa
