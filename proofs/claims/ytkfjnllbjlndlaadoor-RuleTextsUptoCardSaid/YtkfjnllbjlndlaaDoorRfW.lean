/- The law RuleTexts, walked: it answers true. -/
import Derived.Test.YtkfjnllbjlndlaaDoorRuV
import Derived.Test.YtkfjnllbjlndlaaDoorRfE
import Derived.Test.YtkfjnllbjlndlaaDoorRfG
namespace Go.Proofs.YtkfjnllbjlndlaaDoor
open Go.RowKit

theorem parseGo_len (ls : List (List UInt8)) : ∀ (whole : Int) (out : List Ru) (n : Int), out.length ≤ 1024 → (parseGo ls whole out n).1.length ≤ 1024 := by
  induction ls with
  | nil => intro whole out n h; simpa [parseGo] using h
  | cons b bs ih =>
    intro whole out n h
    unfold parseGo
    split
    · simp
    · split
      · simp
      · split
        · simp
        · split
          · simp
          · exact ih _ _ _ (by simp; omega)
/-- The text, or nothing. -/
def textX (l : List Ru) : List UInt8 := if (chkAll l).2 = 0 then textM l else []
theorem text_rd (w : World) (A : Option Addr) (c : Nat) (l : List RV) (h : RdRs w w.heap.size A l) (ht : Tb w) (ea : Int) (he : ea = (chkAll (l.map (·.1))).2) (X : List UInt8) (hX : X = textX (l.map (·.1))) :
    Calls Tryd.prog 18 #[.slice A l.length c] w fun e w' => ∃ A2 c2, e = .returned (.tuple #[.slice A2 X.length c2, .int .i64 ea]) ∧ RdB w' w'.heap.size A2 X ∧ Below w.heap.size w w' := by
  refine (text_any w A c l h ht).mono ?_
  rintro e w' ⟨⟨v, rfl, ho, hn⟩, hb⟩
  rw [← he] at ho hn ⊢
  unfold textX at hX
  rw [← he] at hX
  by_cases h0 : ea = 0
  · rw [if_pos h0] at hX
    obtain ⟨A2, c2, rfl⟩ := own_slice (ho h0)
    rw [hX]
    exact ⟨A2, c2, rfl, own_reads (ho h0), hb⟩
  · rw [if_neg h0] at hX
    rw [hn h0, hX]
    exact ⟨none, 0, rfl, Reads.nil_ _ _ _ _, hb⟩
theorem rtext_rd (w : World) (A : Option Addr) (c : Nat) (l : List RV) (h : RdRs w w.heap.size A l) (ea : Int) (he : ea = (chkAll (l.map (·.1))).2) (X : List UInt8) (hX : X = textX (l.map (·.1))) :
    Calls Tryd.prog 19 #[.slice A l.length c] w fun e w' => ∃ A2 c2, e = .returned (.tuple #[.slice A2 X.length c2, .int .i64 ea]) ∧ RdB w' w'.heap.size A2 X ∧ Below w.heap.size w w' := by
  refine (rtext_any w A c l h).mono ?_
  rintro e w' ⟨⟨v, rfl, ho, hn⟩, hb⟩
  rw [← he] at ho hn ⊢
  unfold textX at hX
  rw [← he] at hX
  by_cases h0 : ea = 0
  · rw [if_pos h0] at hX
    obtain ⟨A2, c2, rfl⟩ := own_slice (ho h0)
    rw [hX]
    exact ⟨A2, c2, rfl, own_reads (ho h0), hb⟩
  · rw [if_neg h0] at hX
    rw [hn h0, hX]
    exact ⟨none, 0, rfl, Reads.nil_ _ _ _ _, hb⟩
theorem parse_rd (w : World) (A : Option Addr) (c : Nat) (p : List UInt8) (h : RdB w w.heap.size A p) (hs : p.length ≤ 140737488351232) (ml : List Ru) (mn me : Int) (hM : (ml, mn, me) = parseM p) :
    Calls Tryd.prog 20 #[.slice A p.length c] w fun e w' => ∃ A' c' k, e = .returned (.tuple #[.slice A' k.length c', .int .i64 mn, .int .i64 me]) ∧ k.map (·.1) = ml ∧ RdRs w' w'.heap.size A' k ∧ Below w.heap.size w w' := by
  refine (parse_any w A c p h hs).mono ?_
  rintro e w' ⟨⟨A', c', k, rfl, hk, hr⟩, hb⟩
  rw [← hM] at hk ⊢
  exact ⟨A', c', k, rfl, hk, hr, hb⟩
theorem rparse_rd (w : World) (A : Option Addr) (c : Nat) (p : List UInt8) (h : RdB w w.heap.size A p) (hc : p.length ≤ c) (hs : p.length ≤ 1048576) (ml : List Ru) (mn me : Int) (hM : (ml, mn, me) = parseM p) :
    Calls Tryd.prog 21 #[.slice A p.length c] w fun e w' => ∃ A' c' k, e = .returned (.tuple #[.slice A' k.length c', .int .i64 mn, .int .i64 me]) ∧ k.map (·.1) = ml ∧ RdRs w' w'.heap.size A' k ∧ Below w.heap.size w w' := by
  refine (rparse_any w A c p h hc hs).mono ?_
  rintro e w' ⟨⟨A', c', k, rfl, hk, hr⟩, hb⟩
  rw [← hM] at hk ⊢
  exact ⟨A', c', k, rfl, hk, hr, hb⟩
theorem checkAll_rd (w : World) (A : Option Addr) (c : Nat) (l : List RV) (h : RdRs w w.heap.size A l) (an ae : Int) (hA : (an, ae) = chkAll (l.map (·.1))) :
    Calls Tryd.prog 16 #[.slice A l.length c] w fun e w' => e = .returned (.tuple #[.int .i64 an, .int .i64 ae]) ∧ Below w.heap.size w w' := by
  have := checkAll_any w A c l h
  rwa [← hA] at this
theorem rcheckAll_rd (w : World) (A : Option Addr) (c : Nat) (l : List RV) (h : RdRs w w.heap.size A l) (an ae : Int) (hA : (an, ae) = chkAll (l.map (·.1))) :
    Calls Tryd.prog 17 #[.slice A l.length c] w fun e w' => e = .returned (.tuple #[.int .i64 an, .int .i64 ae]) ∧ Below w.heap.size w w' := by
  have := rcheckAll_any w A c l h
  rwa [← hA] at this

set_option maxRecDepth 100000 in
set_option maxHeartbeats 4000000 in
theorem ruleTexts_any (w : World) (A : Option Addr) (c : Nat) (l : List RV) (A2 : Option Addr) (c2 : Nat) (T : List UInt8) (h : RdRs w w.heap.size A l) (h2 : RdB w w.heap.size A2 T) (hc2 : T.length ≤ c2) (hs : T.length ≤ 1048576) (ht : Tb w) :
    Calls Tryd.prog 4 #[.slice A l.length c, .slice A2 T.length c2] w fun e w' => e = .returned (.bool true) ∧ Below w.heap.size w w' := by
  have HR := Lib.hid (show ∀ W, Below w.heap.size w W → RdRs W W.heap.size A l from fun W hb => (h.below hb).more hb.size)
  have HP := Lib.hid (show ∀ W, Below w.heap.size w W → RdB W W.heap.size A2 T from fun W hb => Reads.more (Reads.below h2 hb) hb.size)
  have HT := Lib.hid (show ∀ W, Below w.heap.size w W → Tb W from fun W hb => ht.on hb)
  clear h h2 ht
  obtain ⟨⟨an, ae⟩, hA⟩ : ∃ q, q = chkAll (l.map (·.1)) := ⟨_, rfl⟩
  obtain ⟨⟨ml, mn, me⟩, hM⟩ : ∃ q, q = parseM T := ⟨_, rfl⟩
  obtain ⟨X, hX⟩ : ∃ X, X = textX (l.map (·.1)) := ⟨_, rfl⟩
  have HA := Lib.hid hA
  have HM := Lib.hid hM
  have HX := Lib.hid hX
  have HAE := Lib.hid (show ae = (chkAll (l.map (·.1))).2 by rw [← hA])
  have HML := Lib.hid (show ml.length ≤ 1024 by have := parseGo_len (linesM T) T.length [] 1 (by simp); have h2 : (parseM T).1.length ≤ 1024 := this; rw [← hM] at h2; exact h2)
  clear hA hM hX
  go_enter Tryd.func4, Tryd.ntmps4
  go_wp2_with (first | (go_at_call 22; (with_reducible refine (same_text _ A7 A8 c7 c8 k7 k8 RS78.out RS8.out (by have := congrArg List.length HK7.out; have h1 := HML.out; rw [List.length_map] at this; omega) (HK7.out.trans HK8.out.symm)).mono ?_); rintro e w9 ⟨rfl, hb⟩; have HB9 := Lib.hid (below_keep HB8.out hb (Nat.le_refl _)); clear hb) | (go_at_call 14; (with_reducible refine (equalB_same _ _ _ A5 A6 c5 c6 X RD58.out RD68.out).mono ?_); rintro e w' ⟨rfl, rfl⟩) | (go_at_call 21; (with_reducible refine (rparse_rd _ A2 c2 T (HP.out _ HB7.out) hc2 hs ml mn me HM.out).mono ?_); rintro e w8 ⟨A8, c8, k8, rfl, hk, hrd, hb⟩; have RS8 := Lib.hid hrd; have HK8 := Lib.hid hk; have HB8 := Lib.hid (below_keep HB7.out hb (Nat.le_refl _)); have RD58 := Lib.hid (show RdB w8 w8.heap.size A5 X from Reads.more (Reads.below RD57.out hb) hb.size); have RD68 := Lib.hid (show RdB w8 w8.heap.size A6 X from Reads.more (Reads.below RD67.out hb) hb.size); have RS78 := Lib.hid (show RdRs w8 w8.heap.size A7 k7 from (RS7.out.below hb).more hb.size); clear hrd hb hk) | (go_at_call 20; (with_reducible refine (parse_rd _ A2 c2 T (HP.out _ HB6.out) (by omega) ml mn me HM.out).mono ?_); rintro e w7 ⟨A7, c7, k7, rfl, hk, hrd, hb⟩; have RS7 := Lib.hid hrd; have HK7 := Lib.hid hk; have HB7 := Lib.hid (below_keep HB6.out hb (Nat.le_refl _)); have RD57 := Lib.hid (show RdB w7 w7.heap.size A5 X from Reads.more (Reads.below RD56.out hb) hb.size); have RD67 := Lib.hid (show RdB w7 w7.heap.size A6 X from Reads.more (Reads.below RD6.out hb) hb.size); clear hrd hb hk) | (go_at_call 19; (with_reducible refine (rtext_rd _ A c l (HR.out _ HB5.out) ae HAE.out X HX.out).mono ?_); rintro e w6 ⟨A6, c6, rfl, hrd, hb⟩; have RD6 := Lib.hid hrd; have HB6 := Lib.hid (below_keep HB5.out hb (Nat.le_refl _)); have RD56 := Lib.hid (show RdB w6 w6.heap.size A5 X from Reads.more (Reads.below RD5.out hb) hb.size); clear hrd hb) | (go_at_call 18; (with_reducible refine (text_rd _ A c l (HR.out _ HB3.out) (HT.out _ HB3.out) ae HAE.out X HX.out).mono ?_); rintro e w5 ⟨A5, c5, rfl, hrd, hb⟩; have RD5 := Lib.hid hrd; have HB5 := Lib.hid (below_keep HB3.out hb (Nat.le_refl _)); clear hrd hb) | (go_at_call 10; refine (begun_any _).mono ?_; rintro e w3 ⟨rfl, hb⟩; have HB3 := Lib.hid (below_keep HB2.out hb (Nat.le_refl _)); clear hb) | (go_at_call 17; (with_reducible refine (rcheckAll_rd _ A c l (HR.out _ HB1.out) an ae HA.out).mono ?_); rintro e w2 ⟨rfl, hb⟩; have HB2 := Lib.hid (below_keep HB1.out hb (Nat.le_refl _)); clear hb) | (go_at_call 16; (with_reducible refine (checkAll_rd _ A c l (HR.out _ (Below.refl _ _)) an ae HA.out).mono ?_); rintro e w1 ⟨rfl, hb⟩; have HB1 := Lib.hid hb; clear hb))
  go_ret
  exact ⟨rfl, HB9.out⟩
end Go.Proofs.YtkfjnllbjlndlaaDoor
