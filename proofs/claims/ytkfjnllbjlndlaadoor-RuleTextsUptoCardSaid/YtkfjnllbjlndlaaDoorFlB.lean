/- What the functions on flags compute: rule.Flags, rule.ParseFlags, riddleref20.Flags, riddleref20.ParseFlags. -/
import Derived.Test.YtkfjnllbjlndlaaDoorProg
import Derived.Test.YtkfjnllbjlndlaaDoorFlPure
import Derived.Test.YtkfjnllbjlndlaaDoorMem
import Derived.WalkKit
import Derived.WalkSpells
import Derived.WalkLawsBesides
import Derived.LoopTactic
import Derived.LoopN
import Derived.Handy
import Derived.BigRegion
import Derived.Lib.Hide
namespace Go.Proofs.YtkfjnllbjlndlaaDoor
open Go.RowKit


theorem ismol0 (h) : ((⟨#[105, 115, 109, 111, 108]⟩ : ByteArray)[0]'h).toNat = 105 := rfl
theorem ismol1 (h) : ((⟨#[105, 115, 109, 111, 108]⟩ : ByteArray)[1]'h).toNat = 115 := rfl
theorem ismol2 (h) : ((⟨#[105, 115, 109, 111, 108]⟩ : ByteArray)[2]'h).toNat = 109 := rfl
theorem ismol3 (h) : ((⟨#[105, 115, 109, 111, 108]⟩ : ByteArray)[3]'h).toNat = 111 := rfl
theorem ismol4 (h) : ((⟨#[105, 115, 109, 111, 108]⟩ : ByteArray)[4]'h).toNat = 108 := rfl
attribute [local go_sem] ismol0 ismol1 ismol2 ismol3 ismol4

set_option maxHeartbeats 1000000 in
theorem next_any (c : UInt8) (k : Int) (h0 : 0 ≤ k) (h1 : k ≤ 5) (w : World) :
    Calls Tryd.prog 66 #[.int .u8 c.toNat, .int .i64 k] w fun e w' => e = .returned (.int .i64 (if k ≤ Fl.ix c then Fl.ix c else -1)) ∧ w = w' := by
  have hk : k = 0 ∨ k = 1 ∨ k = 2 ∨ k = 3 ∨ k = 4 ∨ k = 5 := by omega
  have hc : c = 105 ∨ c = 115 ∨ c = 109 ∨ c = 111 ∨ c = 108 ∨ (c ≠ 105 ∧ c ≠ 115 ∧ c ≠ 109 ∧ c ≠ 111 ∧ c ≠ 108) := by
    by_cases c0 : c = 105 <;> by_cases c1 : c = 115 <;> by_cases c2 : c = 109 <;> by_cases c3 : c = 111 <;> by_cases c4 : c = 108 <;> simp_all
  rcases hc with rfl | rfl | rfl | rfl | rfl | ⟨n0, n1, n2, n3, n4⟩
  case inr.inr.inr.inr.inr =>
    have hx : (if k ≤ Fl.ix c then Fl.ix c else -1) = -1 := by simp [Fl.ix, n0, n1, n2, n3, n4]
    rw [hx]
    clear hx
    have E0 := u8_lit c 105 (by omega) n0
    have E1 := u8_lit c 115 (by omega) n1
    have E2 := u8_lit c 109 (by omega) n2
    have E3 := u8_lit c 111 (by omega) n3
    have E4 := u8_lit c 108 (by omega) n4
    clear n0 n1 n2 n3 n4
    rcases hk with rfl | rfl | rfl | rfl | rfl | rfl <;>
    · go_enter Tryd.func66, Tryd.ntmps66
      go_wp2
      go_rounds 6
      go_ret
      exact ⟨rfl, rfl⟩
  all_goals
    rcases hk with rfl | rfl | rfl | rfl | rfl | rfl <;>
    · go_enter Tryd.func66, Tryd.ntmps66
      go_wp2
      go_rounds 6
      go_ret
      exact ⟨rfl, rfl⟩
end Go.Proofs.YtkfjnllbjlndlaaDoor
