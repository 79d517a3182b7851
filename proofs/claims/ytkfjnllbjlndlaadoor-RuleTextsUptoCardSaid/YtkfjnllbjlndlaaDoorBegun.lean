/- riddlelaw20.begun is true. -/
import Derived.Test.YtkfjnllbjlndlaaDoorLine
import Derived.Test.YtkfjnllbjlndlaaDoorFlEq
import Derived.Lib.SlBytesConst
import Derived.Test.YtkfjnllbjlndlaaDoorOwn
namespace Go.Proofs.YtkfjnllbjlndlaaDoor
open Go.RowKit

theorem line_begun : lineM [49, 50, 47, 105, 109, 47, 94, 97, 43, 36] = ⟨12, ⟨true, false, true, false, false⟩, [94, 97, 43, 36], 10, 0⟩ := by decide +kernel

set_option maxRecDepth 100000 in
set_option maxHeartbeats 1000000 in
theorem begun_any (w : World) : Calls Tryd.prog 10 #[] w fun e w' => e = .returned (.bool true) ∧ Below w.heap.size w w' := by
  have kc := fun (w : World) (C : Array Value) (n c : Nat) => Lib.run_convert_bytes_const (P := Tryd.prog) w 24 5 C n c Tryd.underlying24 Tryd.underlying5
  go_enter Tryd.func10, Tryd.ntmps10
  have hq : ∀ W, (binOp .eql 23 (.agg #[.bool true, .bool false, .bool true, .bool false, .bool false]) (.agg #[.bool true, .bool false, .bool true, .bool false, .bool false])).run Tryd.prog W = .ok (.bool true) W := fun W => eql_flags ⟨true, false, true, false, false⟩ ⟨true, false, true, false, false⟩ W
  have HR := Lib.hid (RdB.lit w [49, 50, 47, 105, 109, 47, 94, 97, 43, 36] 5 (10, 11))
  go_wp2_with fail
  refine (parseLine_any _ _ _ [49, 50, 47, 105, 109, 47, 94, 97, 43, 36] (by rw [World.size_alloc]; exact HR.out) (by simp) (by simp)).mono ?_
  rintro e w1 ⟨v, rfl, hown, hb⟩
  rw [line_begun] at hown ⊢
  simp only [LineR.vals]
  obtain ⟨A1, c1, rfl⟩ := own_slice hown
  have hs := fun o => RdB.string_ (Reads.alloc (own_reads hown) (Nat.le_refl _) o) 24 9 5 Tryd.underlying24 Tryd.underlying5 Tryd.underlying9 c1
  simp only [List.length_cons, List.length_nil, Nat.reduceAdd] at hs
  have HB := Lib.hid hb
  clear hb hown
  go_wp2
  go_ret
  have hb := HB.out
  simp only [World.size_alloc] at hb
  exact ⟨rfl, (((Below.refl _ _).alloc (Nat.le_refl _) _).trans (hb.mono (by omega))).alloc (by have := hb.size; simp at this; omega) _⟩
end Go.Proofs.YtkfjnllbjlndlaaDoor
