/- What rule.id computes. -/
import Derived.Test.YtkfjnllbjlndlaaDoorBytes
import Derived.LoopTactic
import Derived.LoopN
namespace Go.Proofs.YtkfjnllbjlndlaaDoor
open Go.RowKit

def idM : List UInt8 → Int → Int → Int × Int × Bool
  | [], _, at_ => (0, at_, false)
  | c :: cs, n, at_ => if (c.toNat : Int) = 47 ∧ 0 < at_ then (n, at_, true)
      else if (c.toNat : Int) < 48 ∨ 57 < (c.toNat : Int) ∨ (at_ = 0 ∧ (c.toNat : Int) = 48) ∨ 2147483648 < 10 * n + ((c.toNat : Int) - 48) then (0, at_, false)
      else idM cs (10 * n + ((c.toNat : Int) - 48)) (at_ + 1)

set_option maxHeartbeats 4000000 in
theorem id_any (w : World) (B : Nat) (A : Option Addr) (c : Nat) (bs : List UInt8) (h : RdB w B A bs) (hn : bs.length ≤ 140737488351232) :
    Calls Tryd.prog 57 #[.slice A bs.length c] w fun e w' => e = .returned (.tuple #[.int .i64 (idM bs 0 0).1, .int .i64 (idM bs 0 0).2.1, .bool (idM bs 0 0).2.2]) ∧ w = w' := by
  have H := Lib.hid h
  clear h
  go_enter Tryd.func57, Tryd.ntmps57
  go_wp2
  go_loop [5, 6] (fun q p => ∃ (k : Nat) (n : Int), k ≤ bs.length ∧ 0 ≤ n ∧ n ≤ 2147483648 ∧ q = .int .i64 n ∧ p = .int .i64 k ∧ idM (bs.drop k) n k = idM bs 0 0) (fun _ p => bs.length - (intOf p).toNat)
  case atStart => exact ⟨0, 0, by omega, by omega, by omega, rfl, rfl, rfl⟩
  case round =>
    obtain ⟨k, n, hk, hn0, hn1, rfl, rfl, hid⟩ := hrel
    by_cases hlt : k < bs.length
    · obtain ⟨ad, rfl, _, hcell⟩ := H.out.at_ hlt
      rw [List.drop_eq_getElem_cons hlt, idM] at hid
      have hc0 : 0 ≤ ((bs[k]).toNat : Int) := by omega
      have hc1 : ((bs[k]).toNat : Int) ≤ 255 := by have := (bs[k]).toNat_lt; omega
      generalize ((bs[k]).toNat : Int) = ci at *
      have HI := Lib.hid hid
      clear hid
      have hcell0 : k = 0 → w.cell? ad = some (.int .u8 ci) := by rintro rfl; simpa [Addr.add] using hcell
      rcases Nat.eq_zero_or_pos k with rfl | hk0
      rotate_left
      clear hcell0
      rotate_left
      replace hcell0 := hcell0 rfl
      rotate_left
      all_goals
        go_wp2
        all_goals
          have hI := HI.out
          try simp only [beq_iff_eq, beq_eq_false_iff_ne, ne_eq] at *
          first
            | rw [if_pos (by omega)] at hI
            | rw [if_neg (by omega), if_pos (by omega)] at hI
            | rw [if_neg (by omega), if_neg (by omega)] at hI
          first
            | exact ⟨⟨_ + 1, _, by omega, by omega, by omega, rfl, by go_num, hI⟩, by simp [intOf]; omega⟩
            | (go_ret3; exact ⟨by rw [← hI]; rfl, rfl⟩)
    · obtain rfl : k = bs.length := by omega
      rw [List.drop_length, idM] at hid
      have HI := Lib.hid hid
      clear hid
      go_wp2
      go_ret3
      exact ⟨by rw [← HI.out]; rfl, rfl⟩
end Go.Proofs.YtkfjnllbjlndlaaDoor
