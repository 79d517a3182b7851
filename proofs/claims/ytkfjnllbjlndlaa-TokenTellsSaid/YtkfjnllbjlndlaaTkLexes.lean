/- The law TokenLexes, walked: it answers true. -/
import Derived.Test.YtkfjnllbjlndlaaTkBegun
namespace Go.Proofs.Ytkfjnllbjlndlaa
open Go.RowKit

theorem lexR_length (p : List UInt8) : (lexR p).1.length ≤ 1024 := by
  unfold lexR
  split
  · simp
  · rename_i h
    split
    · have h1 := (toksM_read p p.length 0 (by omega) (by omega)).1
      have h2 := readM_length p p.length 0 (by omega) (by omega)
      unfold toksA
      rw [h1, List.length_map]
      omega
    · simp

set_option maxRecDepth 100000 in
set_option maxHeartbeats 1000000 in
theorem tokenLexes_any (w : World) (A : Option Addr) (c : Nat) (p : List UInt8) (hr : RdB w w.heap.size A p) :
    Calls Try.prog 6 #[.slice A p.length c] w fun e w' => e = .returned (.bool true) ∧ Below w.heap.size w w' := by
  have HR := Lib.hid hr
  have hlen := lexR_length p
  clear hr
  go_enter Try.func6, Try.ntmps6
  go_wp2_with (first | (go_at_call 21; refine (equal_own _ w.heap.size w1.heap.size v1 v2 (lexR p).1 (by omega) O3.out O4.out).mono ?_; rintro e w4 ⟨rfl, m, rfl⟩) | (go_at_call 18; refine (tbegun_any _).mono ?_; rintro e w3 ⟨rfl, hb3⟩; have O3 := Lib.hid (own_below O2.out hb3); have O4 := Lib.hid (own_below OR.out hb3); have HB3 := Lib.hid hb3; clear hb3) | (go_at_call 20; refine (rlex_any _ A c p (Reads.more (Reads.below HR.out HB1.out) HB1.out.size)).mono ?_; rintro e w2 ⟨⟨v2, rfl, ho2⟩, hb2⟩; have OR := Lib.hid ho2; have O2 := Lib.hid (own_below O1.out hb2); have HB2 := Lib.hid hb2; clear ho2 hb2) | (go_at_call 17; refine (lex_any _ A c p HR.out).mono ?_; rintro e w1 ⟨⟨v1, rfl, ho1⟩, hb1⟩; have O1 := Lib.hid ho1; have HB1 := Lib.hid hb1; clear ho1 hb1))
  go_ret
  exact ⟨rfl, below_drewN' (below_keep (below_keep HB1.out HB2.out (Nat.le_refl _)) HB3.out (Nat.le_refl _)) m⟩
end Go.Proofs.Ytkfjnllbjlndlaa
