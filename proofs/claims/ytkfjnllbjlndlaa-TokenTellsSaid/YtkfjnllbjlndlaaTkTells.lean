/- The law TokenTells, walked: it answers true. -/
import Derived.Test.YtkfjnllbjlndlaaTkTold
import Derived.Test.YtkfjnllbjlndlaaTkBegun
import Derived.Test.YtkfjnllbjlndlaaTkRow
namespace Go.Proofs.Ytkfjnllbjlndlaa
open Go.RowKit

theorem tokL_eq (p : List UInt8) : tokL p = tokR p := by
  unfold tokL tokR readR
  split
  · rfl
  · have h := (toksM_read p p.length 0 (by omega) (by omega)).1
    unfold toksA
    exact h.symm

theorem tokens_any (w : World) (A : Option Addr) (c n : Nat) :
    Calls Try.prog 24 #[.slice A n c] w fun e w' => e = .returned (.func (.func 36) #[] #[.pointer (some ⟨w.heap.size, 0, none⟩)]) ∧ w' = w.alloc (.cells #[.slice A n c] 29) := by
  go_enter Try.func24, Try.ntmps24
  go_wp2
  go_ret
  exact ⟨rfl, rfl⟩

theorem told_int (w : World) (bp : Nat) (A : Option Addr) (c : Nat) (p : List UInt8) (m : Nat) (M : Int) (hM : M = (m : Int)) (hb : Bk w bp 29 #[.slice A p.length c]) (hr : RdB w w.heap.size A p) (hlen : p.length ≤ 140737488351232) :
    Calls Try.prog 23 #[.func (.func 36) #[] #[.pointer (some ⟨bp, 0, none⟩)], .int .i64 M] w fun e w' => (∃ v, e = .returned v ∧ w'.ownsRow w.heap.size 49 11 v ((tokL p).take m).length (tcells ((tokL p).take m))) ∧ Below w.heap.size w w' := by
  subst hM
  exact told_any w bp A c p m hb hr hlen

theorem tcells_take (l : List Tok) (m : Nat) : tcells (l.take m) = (tcells l).take (m * 11) := by
  induction l generalizing m with
  | nil => simp [tcells]
  | cons t l ih =>
    cases m with
    | zero => simp [tcells]
    | succ m =>
      have h := ih m
      simp only [tcells, List.take_succ_cons, List.flatMap_cons] at h ⊢
      rw [h, show (m + 1) * 11 = t.list.length + m * 11 from by rw [show t.list.length = 11 from rfl]; omega, List.take_length_add_append]

/-- A row of tokens, and the beginning of another's: equal where the tokens are the same. -/
theorem equal_take (w : World) (b1 b2 : Nat) (v1 : Value) (A2 : Option Addr) (c2 n : Nat) (l : List Tok) (m : Nat) (hn : l.length ≤ 1000000) (h1 : w.ownsRow b1 49 11 v1 (l.take m).length (tcells (l.take m))) (h2 : w.ownsRow b2 49 11 (.slice A2 l.length c2) l.length (tcells l)) (hq : n = (l.take m).length) :
    Calls Try.prog 21 #[v1, .slice A2 n c2] w fun e w' => e = .returned (.bool true) ∧ ∃ m, w' = w.drewN m := by
  subst hq
  rcases Nat.eq_zero_or_pos (l.take m).length with h0 | h0
  · obtain ⟨A1, c1, rfl⟩ := own_slice h1
    rw [h0]
    exact equal_nil w A1 A2 _ c2
  · have hl : 0 < l.length := by rw [List.length_take] at h0; omega
    obtain ⟨g1, c1, rfl, _, _⟩ := h1.form h0
    obtain ⟨g2, c3, e2, _, _⟩ := h2.form hl
    injection e2 with e3 e4 e5
    subst e3 e5
    refine equal_same w g1 g2 c1 c2 (l.take m) (by rw [List.length_take]; omega) (fun j u hj => add_off g1 j ▸ h1.cells (g := g1) rfl j u hj) (fun j u hj => add_off g2 j ▸ h2.cells (g := g2) rfl j u ?_)
    rw [tcells_take, List.getElem?_take] at hj
    split at hj
    · exact hj
    · cases hj

set_option maxRecDepth 100000 in
set_option maxHeartbeats 2000000 in
theorem tokenTells_any (w : World) (A : Option Addr) (c : Nat) (p : List UInt8) (hlen : p.length ≤ 140737488351232) (hr : RdB w w.heap.size A p) (m : Nat) (hm : m < 256) :
    Calls Try.prog 7 #[.slice A p.length c, .int .u8 m] w fun e w' => e = .returned (.bool true) ∧ Below w.heap.size w w' := by
  have HR := Lib.hid hr
  have hL := tokL_length p
  obtain ⟨L, hLL⟩ : ∃ L, tokL p = L := ⟨_, rfl⟩
  have hLR := tokL_eq p
  rw [hLL] at hLR hL
  have HLL := Lib.hid hLL
  have HLR := Lib.hid hLR
  clear hr hLL hLR
  go_enter Try.func7, Try.ntmps7
  go_wp2_with (go_at_call 22; refine (rtokens_any _ A c p HR.out).mono ?_; rintro e w1 ⟨⟨v, rfl, ho⟩, hb⟩; rw [← HLR.out] at ho; obtain ⟨Av, cv, rfl⟩ := own_slice ho; have hcap := own_cap ho; have OV := Lib.hid ho; have HB1 := Lib.hid hb; clear ho hb)
  have hwm : IntKind.i64.wrap (m : Int) = (m : Int) := IntWalk.i64_in _ (by omega)
  obtain ⟨k, hk⟩ : ∃ k, k = (L.take m).length := ⟨_, rfl⟩
  have hkl : k ≤ L.length := by rw [hk, List.length_take]; omega
  have hmin : min (L.length : Int) (m : Int) = (k : Int) := by rw [hk, List.length_take]; omega
  have hk0 : (0 : Int) ≤ (k : Int) := by omega
  have hkc : (k : Int) ≤ (cv : Int) := by omega
  have HK := Lib.hid hk
  clear hk
  go_region_held3 (fun _ => True) (trivial)
    (first | (go_at_call 21; refine (equal_take _ _ _ _ _ _ _ L m (by omega) T7.out OV7.out HK.out).mono ?_; rintro e w8 ⟨rfl, m8, rfl⟩) | (go_at_call 23; refine (told_any _ _ A c p m BP6.out (Reads.more (Reads.below HR.out HB6.out) HB6.out.size) hlen).mono ?_; rintro e w7 ⟨⟨v7, rfl, hto⟩, hb7⟩; rw [HLL.out] at hto; have T7 := Lib.hid hto; have OV7 := Lib.hid (own_below OV6.out hb7); have HB7 := Lib.hid (below_then HB6.out hb7 HB6.out.size); clear hto hb7) | (go_at_call 24; refine (tokens_any _ A c p.length).mono ?_; rintro e w6 ⟨rfl, rfl⟩; have OV6 := Lib.hid (OV5.out.alloc (.cells #[.slice A p.length c] 29)); have HB6 := Lib.hid (HB5.out.alloc HB5.out.size (.cells #[.slice A p.length c] 29)); have BP6 := Lib.hid (Bk.new (w4.drewN m5) 29 #[.slice A p.length c])) | (go_at_call 21; refine (equal_own _ _ _ _ _ L (by omega) T4.out OV4.out).mono ?_; rintro e w5 ⟨rfl, m5, rfl⟩; have OV5 := Lib.hid (own_below OV4.out (below_drewN' (Below.refl _ _) m5)); have HB5 := Lib.hid (below_drewN' HB4.out m5)) | (go_at_call 23; refine (told_int _ _ A c p 65536 65536 rfl BP3.out (Reads.more (Reads.below HR.out HB3.out) HB3.out.size) hlen).mono ?_; rintro e w4 ⟨⟨v4, rfl, hto⟩, hb4⟩; rw [HLL.out, List.take_of_length_le (show L.length ≤ 65536 by omega)] at hto; have T4 := Lib.hid hto; have OV4 := Lib.hid (own_below OV3.out hb4); have HB4 := Lib.hid (below_then HB3.out hb4 HB3.out.size); clear hto hb4) | (go_at_call 24; refine (tokens_any _ A c p.length).mono ?_; rintro e w3 ⟨rfl, rfl⟩; have OV3 := Lib.hid (OV2.out.alloc (.cells #[.slice A p.length c] 29)); have HB3 := Lib.hid (HB2.out.alloc HB2.out.size (.cells #[.slice A p.length c] 29)); have BP3 := Lib.hid (Bk.new w2 29 #[.slice A p.length c])) | (go_at_call 18; refine (tbegun_any _).mono ?_; rintro e w2 ⟨rfl, hb2⟩; have OV2 := Lib.hid (own_below OV.out (below_then (Below.drew (Below.refl _ _)) hb2 (Nat.le_refl _))); have HB2 := Lib.hid (below_then (Below.drew HB1.out) hb2 HB1.out.size); clear hb2))
  all_goals
    go_wp2
    go_ret
    exact ⟨rfl, below_drewN' HB7.out _⟩
end Go.Proofs.Ytkfjnllbjlndlaa
