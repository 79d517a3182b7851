/- The named classes, and the class of one byte: class.Full, Digit, Word, Space; riddleref02's, and Of. -/
import Derived.Test.YtkfjnllbjlndlaaClsB
import Derived.Test.YtkfjnllbjlndlaaClsR
import Derived.Test.YtkfjnllbjlndlaaOwn
import Derived.Deep.RegionWith
namespace Go.Proofs.Ytkfjnllbjlndlaa
open Go.RowKit

def Cl.full : Cl := ⟨18446744073709551615, 18446744073709551615, 18446744073709551615, 18446744073709551615⟩
def Cl.digit : Cl := Cl.range 48 57
def Cl.word : Cl := Cl.union [Cl.range 97 122, Cl.range 65 90, Cl.range 48 57, Cl.of [95]]
def Cl.space : Cl := Cl.union [Cl.range 9 13, Cl.of [32]]
theorem full_a : Cl.zero.not = Cl.full := by decide +kernel
theorem full_b : Cl.range 0 255 = Cl.full := by decide +kernel
theorem space_b : (Cl.range 9 13).set 32 = Cl.space := by decide +kernel

set_option maxHeartbeats 1000000 in
theorem full_cls (w : World) : Calls Try.prog 64 #[] w fun e w' => e = .returned Cl.full.v ∧ Below w.heap.size w w' := by
  go_enter Try.func64, Try.ntmps64
  go_wp2_with (go_at_call 57; refine (not_cls Cl.zero _).mono ?_; rintro e w1 ⟨rfl, hb1⟩; rw [full_a]; unfold Cl.v; have HB1 := Lib.hid hb1; have hcA := ((Bk.new w 47 Cl.zero.cells).kept hb1).cells; have hfA := ((Bk.new w 47 Cl.zero.cells).kept hb1).frozens; clear hb1; simp only [Cl.cells, Cl.zero] at hcA)
  have kk := Bk.putN ((Bk.new w 47 Cl.zero.cells).kept HB1.out) [.int .u64 Cl.full.a, .int .u64 Cl.full.b, .int .u64 Cl.full.c, .int .u64 Cl.full.d]
  have kc := kk.cells
  simp [setN] at kc
  have hb := HB1.out
  simp only [World.size_alloc] at hb
  refine bodyPost_ret (v := Cl.full.v) (by simp [results, Try.results64, go_sem, kc, Cl.v]) rfl ⟨rfl, ?_⟩
  exact below_setN [_, _, _, _] (((Below.refl _ _).alloc (Nat.le_refl _) _).trans (hb.mono (by omega))) 0 (Nat.le_refl _)

set_option maxHeartbeats 1000000 in
theorem refFull_cls (w : World) : Calls Try.prog 84 #[] w fun e w' => e = .returned Cl.full.v ∧ Below w.heap.size w w' := by
  go_enter Try.func84, Try.ntmps84
  go_wp2_with (go_at_call 83; refine (refRange_cls _ 0 255 (by omega) (by omega) (by omega) (by omega)).mono ?_; rintro e w1 ⟨rfl, hb1⟩; rw [full_b]; unfold Cl.v; have HB1 := Lib.hid hb1; have hcA := ((Bk.new w 47 Cl.zero.cells).kept hb1).cells; have hfA := ((Bk.new w 47 Cl.zero.cells).kept hb1).frozens; clear hb1; simp only [Cl.cells, Cl.zero] at hcA)
  have kk := Bk.putN ((Bk.new w 47 Cl.zero.cells).kept HB1.out) [.int .u64 Cl.full.a, .int .u64 Cl.full.b, .int .u64 Cl.full.c, .int .u64 Cl.full.d]
  have kc := kk.cells
  simp [setN] at kc
  have hb := HB1.out
  simp only [World.size_alloc] at hb
  refine bodyPost_ret (v := Cl.full.v) (by simp [results, Try.results84, go_sem, kc, Cl.v]) rfl ⟨rfl, ?_⟩
  exact below_setN [_, _, _, _] (((Below.refl _ _).alloc (Nat.le_refl _) _).trans (hb.mono (by omega))) 0 (Nat.le_refl _)

set_option maxHeartbeats 1000000 in
theorem digit_cls (w : World) : Calls Try.prog 53 #[] w fun e w' => e = .returned Cl.digit.v ∧ Below w.heap.size w w' := by
  go_enter Try.func53, Try.ntmps53
  go_wp2_with (go_at_call 63; refine (range_cls _ 48 57 (by omega) (by omega) (by omega) (by omega)).mono ?_; rintro e w1 ⟨rfl, hb1⟩; rw [show Cl.range 48 57 = Cl.digit from rfl]; unfold Cl.v; have HB1 := Lib.hid hb1; have hcA := ((Bk.new w 47 Cl.zero.cells).kept hb1).cells; have hfA := ((Bk.new w 47 Cl.zero.cells).kept hb1).frozens; clear hb1; simp only [Cl.cells, Cl.zero] at hcA)
  have kk := Bk.putN ((Bk.new w 47 Cl.zero.cells).kept HB1.out) [.int .u64 Cl.digit.a, .int .u64 Cl.digit.b, .int .u64 Cl.digit.c, .int .u64 Cl.digit.d]
  have kc := kk.cells
  simp [setN] at kc
  have hb := HB1.out
  simp only [World.size_alloc] at hb
  refine bodyPost_ret (v := Cl.digit.v) (by simp [results, Try.results53, go_sem, kc, Cl.v]) rfl ⟨rfl, ?_⟩
  exact below_setN [_, _, _, _] (((Below.refl _ _).alloc (Nat.le_refl _) _).trans (hb.mono (by omega))) 0 (Nat.le_refl _)

set_option maxHeartbeats 1000000 in
theorem refDigit_cls (w : World) : Calls Try.prog 73 #[] w fun e w' => e = .returned Cl.digit.v ∧ Below w.heap.size w w' := by
  go_enter Try.func73, Try.ntmps73
  go_wp2_with (go_at_call 83; refine (refRange_cls _ 48 57 (by omega) (by omega) (by omega) (by omega)).mono ?_; rintro e w1 ⟨rfl, hb1⟩; rw [show Cl.range 48 57 = Cl.digit from rfl]; unfold Cl.v; have HB1 := Lib.hid hb1; have hcA := ((Bk.new w 47 Cl.zero.cells).kept hb1).cells; have hfA := ((Bk.new w 47 Cl.zero.cells).kept hb1).frozens; clear hb1; simp only [Cl.cells, Cl.zero] at hcA)
  have kk := Bk.putN ((Bk.new w 47 Cl.zero.cells).kept HB1.out) [.int .u64 Cl.digit.a, .int .u64 Cl.digit.b, .int .u64 Cl.digit.c, .int .u64 Cl.digit.d]
  have kc := kk.cells
  simp [setN] at kc
  have hb := HB1.out
  simp only [World.size_alloc] at hb
  refine bodyPost_ret (v := Cl.digit.v) (by simp [results, Try.results73, go_sem, kc, Cl.v]) rfl ⟨rfl, ?_⟩
  exact below_setN [_, _, _, _] (((Below.refl _ _).alloc (Nat.le_refl _) _).trans (hb.mono (by omega))) 0 (Nat.le_refl _)
end Go.Proofs.Ytkfjnllbjlndlaa
