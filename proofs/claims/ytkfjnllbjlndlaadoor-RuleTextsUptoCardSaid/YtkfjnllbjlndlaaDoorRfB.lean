/- riddleref20.num. -/
import Derived.Test.YtkfjnllbjlndlaaDoorRuP
import Derived.LoopTactic
import Derived.LoopN
namespace Go.Proofs.YtkfjnllbjlndlaaDoor
open Go.RowKit

set_option maxRecDepth 100000 in
set_option maxHeartbeats 2000000 in
theorem num_any (w : World) (N : Nat) (h1 : 1 ≤ N) (h2 : N ≤ 2147483648) :
    Calls Tryd.prog 61 #[.int .i64 N] w fun e w' => e = .returned (.string ⟨(Lib.decDigits N).toArray⟩) ∧ Below w.heap.size w w' := by
  go_enter Tryd.func61, Tryd.ntmps61
  go_wp2
  go_loopw [0, 3] (fun q s wr => ∃ (m : Nat) (suf : List UInt8), q = .int .i64 m ∧ s = .string ⟨suf.toArray⟩ ∧ m ≤ N ∧ Below w.heap.size w wr ∧ Lib.decDigits N = (if m = 0 then [] else Lib.decDigits m) ++ suf) (fun q _ _ => (intOf q).toNat)
  case atStart => exact ⟨N, [], rfl, rfl, Nat.le_refl _, Below.refl _ _, by rw [if_neg (by omega)]; simp⟩
  case round =>
    obtain ⟨m, suf, rfl, rfl, hm, hB, hD⟩ := hrel
    have HB := Lib.hid hB
    have HD := Lib.hid hD
    clear hB hD
    by_cases hp : 0 < m
    · have hpi : (0 : Int) < (m : Int) := by omega
      have hm0 : (0 : Int) ≤ (m : Int) := by omega
      have hm1 : (m : Int) ≤ 2147483648 := by omega
      have hz : suf.length ≤ 10 := by
        have h1 := congrArg List.length HD.out
        rw [List.length_append, Lib.decDigits_length] at h1
        have := nDigits_le 9 N (by omega)
        omega
      have hz2 : 1 + suf.length ≤ 9223372036854775807 := by omega
      have hd := u8_digit (m % 10) (by omega)
      obtain ⟨D, hDD⟩ : ∃ D : UInt8, D = UInt8.ofNat (48 + m % 10) := ⟨_, rfl⟩
      rw [← hDD] at hd
      have hcv : (convert 24 9 (.slice (some ⟨wr.heap.size, 0, none⟩) 1 1)).run Tryd.prog (wr.alloc (.cells #[.int .u8 (48 + (m : Int) % 10)] 5)) = .ok (.string ⟨[D].toArray⟩) (wr.alloc (.cells #[.int .u8 (48 + (m : Int) % 10)] 5)) := by
        have h := (RdB.lit wr [D] 5 (0, 0)).string_ (P := Tryd.prog) 24 9 5 Tryd.underlying24 Tryd.underlying5 Tryd.underlying9 1
        simp only [bcells, List.map_cons, List.map_nil, hd] at h
        have e : ((48 + m % 10 : Nat) : Int) = 48 + (m : Int) % 10 := by omega
        rw [e] at h
        exact h
      have HS := Lib.hid hDD
      clear hd hDD
      go_wp2
      refine ⟨⟨m / 10, D :: suf, by go_num, ?_, by omega, HB.out.alloc HB.out.size _, ?_⟩, by simp only [intOf]; omega⟩
      · exact congrArg _ (ByteArray.ext (by rw [ByteArray.data_append]; simp))
      · have := HD.out
        rw [this, if_neg (by omega), HS.out]
        conv => lhs; rw [Lib.decDigits]
        split
        · rename_i h
          rw [if_pos (by omega)]
          have : m % 10 = m := by omega
          rw [this]
          rfl
        · rename_i h
          rw [if_neg (by omega)]
          simp
    · obtain rfl : m = 0 := by omega
      go_wp2
      go_ret
      have := HD.out
      simp only [if_true, List.nil_append] at this
      rw [this]
      exact ⟨rfl, HB.out⟩
end Go.Proofs.YtkfjnllbjlndlaaDoor
