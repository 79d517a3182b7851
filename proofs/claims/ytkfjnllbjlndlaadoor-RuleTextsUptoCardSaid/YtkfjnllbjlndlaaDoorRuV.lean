/- The law RuleBack, walked: it answers true. -/
import Derived.Test.YtkfjnllbjlndlaaDoorRuU
import Derived.Test.YtkfjnllbjlndlaaDoorBegun
namespace Go.Proofs.YtkfjnllbjlndlaaDoor
open Go.RowKit

theorem RdRs.more {W : World} {B B' : Nat} {A : Option Addr} {l : List RV} (h : RdRs W B A l) (hb : B ≤ B') : RdRs W B' A l where
  rows := fun hn => by
    obtain ⟨ad, e, hB, hc⟩ := h.rows hn
    exact ⟨ad, e, by omega, hc⟩
  pats := fun x hx => ⟨Reads.more (h.pats x hx).1 hb, (h.pats x hx).2⟩
theorem text_ok (w : World) (A : Option Addr) (c : Nat) (l : List RV) (h : RdRs w w.heap.size A l) (ht : Tb w) (h0 : (chkAll (l.map (·.1))).2 = 0) :
    Calls Tryd.prog 18 #[.slice A l.length c] w fun e w' => ∃ A2 c2, e = .returned (.tuple #[.slice A2 (textM (l.map (·.1))).length c2, .int .i64 0]) ∧ RdB w' w'.heap.size A2 (textM (l.map (·.1))) ∧ Below w.heap.size w w' := by
  refine (text_any w A c l h ht).mono ?_
  rintro e w' ⟨⟨v, rfl, ho, _⟩, hb⟩
  obtain ⟨A2, c2, rfl⟩ := own_slice (ho h0)
  rw [h0]
  exact ⟨A2, c2, rfl, own_reads (ho h0), hb⟩
theorem text_no (w : World) (A : Option Addr) (c : Nat) (l : List RV) (h : RdRs w w.heap.size A l) (ht : Tb w) (ea : Int) (he : ea = (chkAll (l.map (·.1))).2) (h0 : ea ≠ 0) :
    Calls Tryd.prog 18 #[.slice A l.length c] w fun e w' => e = .returned (.tuple #[.slice none 0 0, .int .i64 ea]) ∧ Below w.heap.size w w' := by
  refine (text_any w A c l h ht).mono ?_
  rintro e w' ⟨⟨v, rfl, _, hn⟩, hb⟩
  rw [← he] at hn ⊢
  rw [hn h0]
  exact ⟨rfl, hb⟩
theorem parse_text (w : World) (A : Option Addr) (c : Nat) (l : List Ru) (T : List UInt8) (hT : T = textM l) (h : RdB w w.heap.size A T) (h0 : (chkAll l).2 = 0) :
    Calls Tryd.prog 20 #[.slice A T.length c] w fun e w' => ∃ A' c' k, e = .returned (.tuple #[.slice A' k.length c', .int .i64 0, .int .i64 0]) ∧ k.map (·.1) = l ∧ RdRs w' w'.heap.size A' k ∧ Below w.heap.size w w' := by
  obtain ⟨h1, h2⟩ := chkAll_ok h0
  have hl := textM_len l h2
  refine (parse_any w A c T h (by rw [hT]; omega)).mono ?_
  rintro e w' ⟨⟨A', c', k, rfl, hk, hr⟩, hb⟩
  rw [hT, parseM_text l h0] at hk ⊢
  exact ⟨A', c', k, rfl, hk, hr, hb⟩
theorem parse_ok (w : World) (A : Option Addr) (c : Nat) (T : List UInt8) (h : RdB w w.heap.size A T) (hs : T.length ≤ 140737488351232) (h0 : (parseM T).2.2 = 0) :
    Calls Tryd.prog 20 #[.slice A T.length c] w fun e w' => ∃ A' c' k n, e = .returned (.tuple #[.slice A' k.length c', .int .i64 n, .int .i64 0]) ∧ (chkAll (k.map (·.1))).2 = 0 ∧ textM (k.map (·.1)) = T ∧ RdRs w' w'.heap.size A' k ∧ Below w.heap.size w w' := by
  refine (parse_any w A c T h hs).mono ?_
  rintro e w' ⟨⟨A', c', k, rfl, hk, hr⟩, hb⟩
  obtain ⟨h1, h2⟩ := parseM_inv T h0
  rw [← hk] at h1 h2
  rw [h0]
  exact ⟨A', c', k, _, rfl, h1, h2, hr, hb⟩
theorem parse_no (w : World) (A : Option Addr) (c : Nat) (T : List UInt8) (h : RdB w w.heap.size A T) (hs : T.length ≤ 140737488351232) (er : Int) (he : er = (parseM T).2.2) :
    Calls Tryd.prog 20 #[.slice A T.length c] w fun e w' => ∃ A' c' k n, e = .returned (.tuple #[.slice A' k c', .int .i64 n, .int .i64 er]) ∧ Below w.heap.size w w' := by
  refine (parse_any w A c T h hs).mono ?_
  rintro e w' ⟨⟨A', c', k, rfl, hk, hr⟩, hb⟩
  rw [← he]
  exact ⟨A', c', _, _, rfl, hb⟩
theorem same_text (w : World) (A1 A2 : Option Addr) (c1 c2 : Nat) (l m : List RV) (h1 : RdRs w w.heap.size A1 l) (h2 : RdRs w w.heap.size A2 m) (hlm : l.length ≤ 140737488351232) (he : l.map (·.1) = m.map (·.1)) :
    Calls Tryd.prog 22 #[.slice A1 l.length c1, .slice A2 m.length c2] w fun e w' => e = .returned (.bool true) ∧ Below w.heap.size w w' := by
  refine (sameAll_any w A1 A2 c1 c2 l m h1 h2 hlm).mono ?_
  rw [decide_eq_true he]
  exact fun e w' h => h
theorem equalB_same (w : World) (B1 B2 : Nat) (A1 A2 : Option Addr) (c1 c2 : Nat) (p : List UInt8) (h1 : RdB w B1 A1 p) (h2 : RdB w B2 A2 p) :
    Calls Tryd.prog 14 #[.slice A1 p.length c1, .slice A2 p.length c2] w fun e w' => e = .returned (.bool true) ∧ w' = w := by
  have := equalB_any w B1 B2 A1 A2 c1 c2 p p h1 h2
  rwa [decide_eq_true rfl] at this

set_option maxRecDepth 100000 in
set_option maxHeartbeats 4000000 in
theorem ruleBack_any (w : World) (A : Option Addr) (c : Nat) (l : List RV) (A2 : Option Addr) (c2 : Nat) (T : List UInt8) (h : RdRs w w.heap.size A l) (h2 : RdB w w.heap.size A2 T) (hs : T.length ≤ 140737488351232) (ht : Tb w) :
    Calls Tryd.prog 5 #[.slice A l.length c, .slice A2 T.length c2] w fun e w' => e = .returned (.bool true) ∧ Below w.heap.size w w' := by
  have HR := Lib.hid (show ∀ W, Below w.heap.size w W → RdRs W W.heap.size A l from fun W hb => (h.below hb).more hb.size)
  have HP := Lib.hid (show ∀ W, Below w.heap.size w W → RdB W W.heap.size A2 T from fun W hb => Reads.more (Reads.below h2 hb) hb.size)
  have HT := Lib.hid (show ∀ W, Below w.heap.size w W → Tb W from fun W hb => ht.on hb)
  clear h h2 ht
  obtain ⟨ea, hea⟩ : ∃ ea, ea = (chkAll (l.map (·.1))).2 := ⟨_, rfl⟩
  obtain ⟨er, her⟩ : ∃ er, er = (parseM T).2.2 := ⟨_, rfl⟩
  have HEA := Lib.hid hea
  have HER := Lib.hid her
  clear hea her
  by_cases ha : ea = 0
  · subst ha
    obtain ⟨X, hX⟩ : ∃ X, X = textM (l.map (·.1)) := ⟨_, rfl⟩
    have HX := Lib.hid hX
    clear hX
    by_cases hr : er = 0
    · subst hr
      go_enter Tryd.func5, Tryd.ntmps5
      go_wp2_with (first | (go_at_call 14; (with_reducible refine (equalB_same _ _ _ A6 A2 c6 c2 T RD6.out (HP.out _ HB6.out)).mono ?_); rintro e w7 ⟨rfl, rfl⟩) | (go_at_call 18; (with_reducible refine (text_ok _ A5 c5 k5 RS5.out (HT.out _ HB5.out) HC5.out).mono ?_); rw [HT5.out]; rintro e w6 ⟨A6, c6, rfl, hrd, hb⟩; have RD6 := Lib.hid hrd; have HB6 := Lib.hid (below_keep HB5.out hb (Nat.le_refl _)); clear hrd hb) | (go_at_call 20; (with_reducible refine (parse_ok _ A2 c2 T (HP.out _ HB4.out) hs HER.out.symm).mono ?_); rintro e w5 ⟨A5, c5, k5, n5, rfl, hc, ht5, hrd, hb⟩; have RS5 := Lib.hid hrd; have HC5 := Lib.hid hc; have HT5 := Lib.hid ht5; have HB5 := Lib.hid (below_keep HB4.out hb (Nat.le_refl _)); clear hrd hb hc ht5) | (go_at_call 22; (with_reducible refine (same_text _ A3 A c3 c k3 l RS3.out (HR.out _ HB3.out) (by have := congrArg List.length HK3.out; have h1 := (chkAll_ok HEA.out.symm).1; simp at this h1; omega) HK3.out).mono ?_); rintro e w4 ⟨rfl, hb⟩; have HB4 := Lib.hid (below_keep HB3.out hb (Nat.le_refl _)); clear hb) | (go_at_call 20; (with_reducible refine (parse_text _ A1 c1 (l.map (·.1)) X HX.out RD2.out HEA.out.symm).mono ?_); rintro e w3 ⟨A3, c3, k3, rfl, hk, hrd, hb⟩; have RS3 := Lib.hid hrd; have HK3 := Lib.hid hk; have HB3 := Lib.hid (below_keep HB2.out hb (Nat.le_refl _)); clear hrd hb hk) | (go_at_call 18; (with_reducible refine (text_ok _ A c l (HR.out _ HB1.out) (HT.out _ HB1.out) HEA.out.symm).mono ?_); rw [← HX.out]; rintro e w2 ⟨A1, c1, rfl, hrd, hb⟩; have RD2 := Lib.hid hrd; have HB2 := Lib.hid (below_keep HB1.out hb (Nat.le_refl _)); clear hrd hb) | (go_at_call 10; refine (begun_any _).mono ?_; rintro e w1 ⟨rfl, hb⟩; have HB1 := Lib.hid hb; clear hb))
      go_ret
      exact ⟨rfl, HB6.out⟩
    · have hrb := bne_iff_ne.2 hr
      go_enter Tryd.func5, Tryd.ntmps5
      go_wp2_with (first | (go_at_call 20; (with_reducible refine (parse_no _ A2 c2 T (HP.out _ HB4.out) hs er HER.out).mono ?_); rintro e w5 ⟨A5, c5, k5, n5, rfl, hb⟩; have HB5 := Lib.hid (below_keep HB4.out hb (Nat.le_refl _)); clear hb) | (go_at_call 22; (with_reducible refine (same_text _ A3 A c3 c k3 l RS3.out (HR.out _ HB3.out) (by have := congrArg List.length HK3.out; have h1 := (chkAll_ok HEA.out.symm).1; simp at this h1; omega) HK3.out).mono ?_); rintro e w4 ⟨rfl, hb⟩; have HB4 := Lib.hid (below_keep HB3.out hb (Nat.le_refl _)); clear hb) | (go_at_call 20; (with_reducible refine (parse_text _ A1 c1 (l.map (·.1)) X HX.out RD2.out HEA.out.symm).mono ?_); rintro e w3 ⟨A3, c3, k3, rfl, hk, hrd, hb⟩; have RS3 := Lib.hid hrd; have HK3 := Lib.hid hk; have HB3 := Lib.hid (below_keep HB2.out hb (Nat.le_refl _)); clear hrd hb hk) | (go_at_call 18; (with_reducible refine (text_ok _ A c l (HR.out _ HB1.out) (HT.out _ HB1.out) HEA.out.symm).mono ?_); rw [← HX.out]; rintro e w2 ⟨A1, c1, rfl, hrd, hb⟩; have RD2 := Lib.hid hrd; have HB2 := Lib.hid (below_keep HB1.out hb (Nat.le_refl _)); clear hrd hb) | (go_at_call 10; refine (begun_any _).mono ?_; rintro e w1 ⟨rfl, hb⟩; have HB1 := Lib.hid hb; clear hb))
      go_ret
      exact ⟨rfl, HB5.out⟩
  · have hab := bne_iff_ne.2 ha
    have hae : (ea == 0) = false := beq_eq_false_iff_ne.2 ha
    by_cases hr : er = 0
    · subst hr
      go_enter Tryd.func5, Tryd.ntmps5
      go_wp2_with (first | (go_at_call 14; (with_reducible refine (equalB_same _ _ _ A6 A2 c6 c2 T RD6.out (HP.out _ HB6.out)).mono ?_); rintro e w7 ⟨rfl, rfl⟩) | (go_at_call 18; (with_reducible refine (text_ok _ A5 c5 k5 RS5.out (HT.out _ HB5.out) HC5.out).mono ?_); rw [HT5.out]; rintro e w6 ⟨A6, c6, rfl, hrd, hb⟩; have RD6 := Lib.hid hrd; have HB6 := Lib.hid (below_keep HB5.out hb (Nat.le_refl _)); clear hrd hb) | (go_at_call 20; (with_reducible refine (parse_ok _ A2 c2 T (HP.out _ HB2.out) hs HER.out.symm).mono ?_); rintro e w5 ⟨A5, c5, k5, n5, rfl, hc, ht5, hrd, hb⟩; have RS5 := Lib.hid hrd; have HC5 := Lib.hid hc; have HT5 := Lib.hid ht5; have HB5 := Lib.hid (below_keep HB2.out hb (Nat.le_refl _)); clear hrd hb hc ht5) | (go_at_call 18; (with_reducible refine (text_no _ A c l (HR.out _ HB1.out) (HT.out _ HB1.out) ea HEA.out ha).mono ?_); rintro e w2 ⟨rfl, hb⟩; have HB2 := Lib.hid (below_keep HB1.out hb (Nat.le_refl _)); clear hb) | (go_at_call 10; refine (begun_any _).mono ?_; rintro e w1 ⟨rfl, hb⟩; have HB1 := Lib.hid hb; clear hb))
      go_ret
      exact ⟨rfl, HB6.out⟩
    · have hrb := bne_iff_ne.2 hr
      go_enter Tryd.func5, Tryd.ntmps5
      go_wp2_with (first | (go_at_call 20; (with_reducible refine (parse_no _ A2 c2 T (HP.out _ HB2.out) hs er HER.out).mono ?_); rintro e w5 ⟨A5, c5, k5, n5, rfl, hb⟩; have HB5 := Lib.hid (below_keep HB2.out hb (Nat.le_refl _)); clear hb) | (go_at_call 18; (with_reducible refine (text_no _ A c l (HR.out _ HB1.out) (HT.out _ HB1.out) ea HEA.out ha).mono ?_); rintro e w2 ⟨rfl, hb⟩; have HB2 := Lib.hid (below_keep HB1.out hb (Nat.le_refl _)); clear hb) | (go_at_call 10; refine (begun_any _).mono ?_; rintro e w1 ⟨rfl, hb⟩; have HB1 := Lib.hid hb; clear hb))
      go_ret
      exact ⟨rfl, HB5.out⟩
end Go.Proofs.YtkfjnllbjlndlaaDoor
