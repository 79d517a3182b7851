/- The lexer's one, whole. -/
import Derived.Test.YtkfjnllbjlndlaaOnC
import Derived.Test.YtkfjnllbjlndlaaOnD
import Derived.Test.YtkfjnllbjlndlaaOnE
import Derived.Test.YtkfjnllbjlndlaaOnF
namespace Go.Proofs.Ytkfjnllbjlndlaa
open Go.RowKit

theorem one_any (w : World) (g B : Nat) (A : Option Addr) (c : Nat) (p : List UInt8) (k : Nat) (h : Lx w g B A c p k) (hk : k < p.length) :
    Calls Try.prog 34 #[.pointer (some ⟨g, 0, none⟩)] w fun e w' => OneRes w' g B A c p (oneM p k) e ∧ Only g w w' := by
  obtain ⟨x, hx⟩ : ∃ x, ∃ h : k < p.length, (p[k].toNat : Int) = x := ⟨_, hk, rfl⟩
  by_cases c92 : x = 92
  · rcases hE : escM p (k + 1) with _ | ⟨t2, k2⟩
    · exact one_escNo w g B A c p k h x hx c92 hE
    · exact one_escYes w g B A c p k h x hx c92 t2 k2 hE
  by_cases c91 : x = 91
  · rcases hr : setM p k (decide (byteAt p (k + 1) = 94)) (p.length + 1) (if decide (byteAt p (k + 1) = 94) then k + 2 else k + 1) true Cl.zero with ⟨cl, k2⟩ | ⟨a, er⟩
    · exact one_setYes w g B A c p k h x hx c91 _ rfl cl k2 hr
    · exact one_setNo w g B A c p k h x hx c91 _ rfl a er hr
  by_cases c46 : x = 46
  · exact one_46 w g B A c p k h x hx c46
  by_cases c40 : x = 40
  · by_cases h1 : byteAt p (k + 1) = 63
    · by_cases h2 : byteAt p (k + 2) = 58
      · exact one_grpYes w g B A c p k h x hx c40 h1 h2
      · exact one_grpBad w g B A c p k h x hx c40 h1 h2
    · exact one_grpNo w g B A c p k h x hx c40 h1
  by_cases c41 : x = 41
  · exact one_41 w g B A c p k h x hx c41
  by_cases c124 : x = 124
  · exact one_124 w g B A c p k h x hx c124
  by_cases c94 : x = 94
  · exact one_94 w g B A c p k h x hx c94
  by_cases c36 : x = 36
  · exact one_36 w g B A c p k h x hx c36
  by_cases c43 : x = 43
  · exact one_43 w g B A c p k h x hx c43
  by_cases c42 : x = 42
  · exact one_42 w g B A c p k h x hx c42
  by_cases c63 : x = 63
  · exact one_63 w g B A c p k h x hx c63
  by_cases c123 : x = 123
  · rcases hE : cntM p (k + 1) with _ | ⟨t2, k2⟩
    · exact one_cntNo w g B A c p k h x hx c123 hE
    · obtain ⟨ln, mn, rfl⟩ := cntM_form _ _ _ _ hE
      exact one_cntYes w g B A c p k h x hx c123 ln mn k2 hE
  exact one_byte w g B A c p k h x hx c92 c91 c46 c40 c41 c124 c94 c36 c43 c42 c63 c123
end Go.Proofs.Ytkfjnllbjlndlaa
