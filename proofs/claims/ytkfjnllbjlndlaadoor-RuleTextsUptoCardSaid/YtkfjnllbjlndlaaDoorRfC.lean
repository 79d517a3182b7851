/- riddleref20.Line. -/
import Derived.Test.YtkfjnllbjlndlaaDoorRfA
import Derived.Test.YtkfjnllbjlndlaaDoorRfB
import Derived.Test.YtkfjnllbjlndlaaDoorFlC
import Derived.Test.YtkfjnllbjlndlaaDoorConv
namespace Go.Proofs.YtkfjnllbjlndlaaDoor
open Go.RowKit

theorem rcheck_lit (w : World) (a : Ru) (A1 : Option Addr) (c1 : Nat) (h : RdB w w.heap.size A1 a.p) (hn : a.p.length ≤ 140737488351232) :
    Calls Tryd.prog 39 #[.agg #[.int .i64 a.id, .bool a.f.i, .bool a.f.s, .bool a.f.m, .bool a.f.o, .bool a.f.l, .slice A1 a.p.length c1]] w fun e w' => e = .returned (.int .i64 a.chk) ∧ Below w.heap.size w w' := rcheck_any w a A1 c1 h hn

/-- What a region's operations have left, at any order. -/
structure RLn (T2 T3 T6 T7 T8 : List UInt8) (L : Nat → Bool) (W w1 : World) (r : Ru) (g1 : Nat) (A : Option Addr) (c : Nat) (s2 s10 s11 s12 s13 s14 s15 s16 s17 s18 s19 s20 s21 s22 : Value) : Prop where
  bel : Below w1.heap.size w1 W
  e0 : L 0 = true → s10 = .pointer (some ⟨g1, 0, none⟩)
  e1 : L 1 = true → s11 = .int .i64 r.id
  e2 : L 2 = true → s12 = .string ⟨T2.toArray⟩
  e3 : L 3 = true → s13 = .string ⟨T3.toArray⟩
  e4 : L 4 = true → s14 = .pointer (some ⟨g1, 1, none⟩)
  e5 : L 5 = true → s15 = r.f.v
  e6 : L 6 = true → s16 = .string ⟨T6.toArray⟩
  e7 : L 7 = true → s17 = .string ⟨T7.toArray⟩
  e8 : L 8 = true → s18 = .string ⟨T8.toArray⟩
  e9 : L 9 = true → L 12 = false → OwnC W w1.heap.size 5 s19 (bcells T8)
  e10 : L 10 = true → s20 = .pointer (some ⟨g1, 6, none⟩)
  e11 : L 11 = true → s21 = .slice A r.p.length c
  e12 : L 12 = true → ∃ A' c', s22 = .slice A' r.line.length c' ∧ RdB W W.heap.size A' r.line
  f13 : L 13 = true → L 12 = true
  e13 : L 13 = true → s2 = s22
theorem RLn.below {T2 T3 T6 T7 T8 : List UInt8} {L : Nat → Bool} {W W' w1 : World} {r : Ru} {g1 : Nat} {A : Option Addr} {c : Nat} {s2 s10 s11 s12 s13 s14 s15 s16 s17 s18 s19 s20 s21 s22 : Value} (h : RLn T2 T3 T6 T7 T8 L W w1 r g1 A c s2 s10 s11 s12 s13 s14 s15 s16 s17 s18 s19 s20 s21 s22) (hb : Below W.heap.size W W') : RLn T2 T3 T6 T7 T8 L W' w1 r g1 A c s2 s10 s11 s12 s13 s14 s15 s16 s17 s18 s19 s20 s21 s22 :=
  { h with bel := below_then h.bel hb h.bel.size, e9 := fun h1 h2 => (h.e9 h1 h2).below hb, e12 := (fun h1 => match h.e12 h1 with | ⟨A', c', e, hr⟩ => ⟨A', c', e, Reads.more (Reads.below hr hb) hb.size⟩) }
theorem cat_eq (a b : List UInt8) : Value.string ((⟨a.toArray⟩ : ByteArray) ++ ⟨b.toArray⟩) = .string ⟨(a ++ b).toArray⟩ := congrArg _ (ByteArray.ext (by rw [ByteArray.data_append]; simp))
theorem itoa_posA (n : Int) (h : 1 ≤ n) : Lib.itoa n = Lib.decDigits n.toNat := by unfold Lib.itoa; rw [if_neg (by omega)]
theorem num_r (W : World) (r : Ru) (h1 : 1 ≤ r.id) (h2 : r.id ≤ 2147483648) : Calls Tryd.prog 61 #[.int .i64 r.id] W fun e w' => e = .returned (.string ⟨(Lib.itoa r.id).toArray⟩) ∧ Below W.heap.size W w' := by
  obtain ⟨n, hn⟩ := Int.eq_ofNat_of_zero_le (show 0 ≤ r.id by omega)
  have h := num_any W n (by omega) (by omega)
  rw [hn, itoa_posA _ (by omega)]
  exact h
theorem own_conv {W w1 : World} {T : List UInt8} (hb : Below w1.heap.size w1 W) : OwnC (Lib.bytesWorld W 5 ⟨T.toArray⟩) w1.heap.size 5 (.slice (some ⟨W.heap.size, 0, none⟩) T.length (grownCap W T.length 0 5)) (bcells T) := by
  obtain ⟨g, cap, cur, h1, h2, h3⟩ := OwnC.made W 5 T
  exact ⟨g, cap, cur, h1, Nat.le_trans hb.size h2, h3⟩
theorem run_conv (W : World) (T : List UInt8) : (convert 9 24 (.string ⟨T.toArray⟩)).run Tryd.prog W = .ok (.slice (some ⟨W.heap.size, 0, none⟩) T.length (grownCap W T.length 0 5)) (Lib.bytesWorld W 5 ⟨T.toArray⟩) :=
  Lib.run_convert_string_bytes (P := Tryd.prog) W 9 24 5 ⟨T.toArray⟩ Tryd.underlying9 Tryd.underlying24 Tryd.underlying5
theorem conv_base {W : World} {base : Nat} {e : TypeId} {v : Value} {xs : List Value} (h : OwnC W base e v xs) (q : Nat) (hq : v.ownBlock = some q) : base ≤ q := by
  obtain ⟨g, cap, cur, rfl, h1, _⟩ := h
  have : g = q := by simpa [Value.ownBlock] using hq
  omega
theorem line_part (r : Ru) : r.line = r.part 3 ++ r.p := by simp [Ru.line, Ru.part]
theorem line_slice {r : Ru} {T : List UInt8} (h : T = r.part 3) (A' : Option Addr) (c' : Nat) : Value.slice A' ((bcells T).length + r.p.length) c' = .slice A' r.line.length c' := by rw [line_part, List.length_append, bcells_length, h]
theorem line_reads {W : World} {r : Ru} {T : List UInt8} (hT : T = r.part 3) {A' : Option Addr} (h : Reads W W.heap.size 1 A' ((bcells T).length + r.p.length) (bcells T ++ bcells r.p)) : RdB W W.heap.size A' r.line := by
  rw [bcells_length, ← bcells_append, ← List.length_append, hT, ← line_part] at h
  exact h

set_option maxRecDepth 100000 in
set_option maxHeartbeats 4000000 in
theorem rline_any (w : World) (r : Ru) (A : Option Addr) (c : Nat) (h : RdB w w.heap.size A r.p) (hn : r.p.length ≤ 140737488351232) :
    Calls Tryd.prog 40 #[r.v A c] w fun e w' => (∃ v, e = .returned (.tuple #[v, .int .i64 r.chk]) ∧ (r.chk = 0 → ∃ A' c', v = .slice A' r.line.length c' ∧ RdB w' w'.heap.size A' r.line) ∧ (r.chk ≠ 0 → v = .slice none 0 0)) ∧ Below w.heap.size w w' := by
  obtain ⟨i0, hii, hz0, hz1, hz2⟩ := info_parts infoU8
  have HP := Lib.hid (show ∀ o, RdB (w.alloc o) (w.alloc o).heap.size A r.p from fun o => Reads.more (Reads.alloc h (Nat.le_refl _) _) (by simp))
  have HR := Lib.hid h
  clear h
  obtain ⟨e, he⟩ : ∃ e, e = r.chk := ⟨_, rfl⟩
  rw [← he]
  have HE := Lib.hid he
  clear he
  by_cases h0 : e = 0
  · subst h0
    obtain ⟨hi1, hi2, hix, hpl⟩ := chk_ok HE.out.symm
    have HIX := Lib.hid hix
    clear hix
    unfold Ru.v Ru.cells
    go_enter Tryd.func40, Tryd.ntmps40
    go_wp2_with (go_at_call 39; (with_reducible refine (rcheck_lit _ r A c (HP.out _) hn).mono ?_); rintro e w1 ⟨rfl, hb1⟩; rw [← HE.out]; have HB1 := Lib.hid hb1; have hk := ((Bk.new w 26 (r.cells A c)).kept hb1); unfold Ru.cells at hk; have HK := Lib.hid hk; have hk1 := hk.cells; clear hb1 hk)
    rename_i hK
    obtain ⟨T2, h2⟩ : ∃ T, T = Lib.itoa r.id := ⟨_, rfl⟩
    obtain ⟨T6, h6⟩ : ∃ T, T = Fl.lets r.f := ⟨_, rfl⟩
    obtain ⟨T3, h3⟩ : ∃ T, T = T2 ++ [47] := ⟨_, rfl⟩
    obtain ⟨T7, h7⟩ : ∃ T, T = T3 ++ T6 := ⟨_, rfl⟩
    obtain ⟨T8, h8⟩ : ∃ T, T = T7 ++ [47] := ⟨_, rfl⟩
    have hl2 : T2.length ≤ 21 := by rw [h2]; exact itoa_len r.id (by omega) hi2
    have hl6 : T6.length ≤ 5 := by rw [h6]; exact lets_len r.f
    have hl3 : T3.length ≤ 22 := by rw [h3]; simp; omega
    have hl7 : T7.length ≤ 27 := by rw [h7]; simp; omega
    have hl8 : T8.length ≤ 28 := by rw [h8]; simp; omega
    have H9 := Lib.hid (show T8 = r.part 3 by rw [h8, h7, h3, h2, h6]; rfl)
    have H2 := Lib.hid h2
    have H3 := Lib.hid h3
    have H6 := Lib.hid h6
    have H7 := Lib.hid h7
    have H8 := Lib.hid h8
    clear h2 h3 h6 h7 h8
    have HRR := Lib.hid (show ∀ W, Below w1.heap.size w1 W → RdB W w.heap.size A r.p from fun W hb => Reads.below (Reads.below (Reads.alloc HR.out (Nat.le_refl _) _) (HB1.out.mono (by simp))) (hb.mono (by have := HB1.out.size; simp at this; omega)))
    refine wp_region_inv (by kernel_rfl) (by kernel_rfl) (fun L a W => ∃ (s2 s10 s11 s12 s13 s14 s15 s16 s17 s18 s19 s20 s21 s22 : Value), a = { tmps := #[.agg #[.int .i64 r.id, .bool r.f.i, .bool r.f.s, .bool r.f.m, .bool r.f.o, .bool r.f.l, .slice A r.p.length c], .pointer (some ⟨w.heap.size, 0, none⟩), s2, .int .i64 0, .int .i64 0, .agg #[.int .i64 r.id, .bool r.f.i, .bool r.f.s, .bool r.f.m, .bool r.f.o, .bool r.f.l, .slice A r.p.length c], .int .i64 0, .int .i64 0, .bool false, undef, s10, s11, s12, s13, s14, s15, s16, s17, s18, s19, s20, s21, s22], defers := [] } ∧ RLn T2 T3 T6 T7 T8 L W w1 r w.heap.size A c s2 s10 s11 s12 s13 s14 s15 s16 s17 s18 s19 s20 s21 s22) ?h0 ?step ?done
    case h0 =>
      refine ⟨_, _, _, _, _, _, _, _, _, _, _, _, _, _, rfl, ?_⟩
      exact { bel := (Below.refl _ _).drew, e0 := (fun h => by cases h), e1 := (fun h => by cases h), e2 := (fun h => by cases h), e3 := (fun h => by cases h), e4 := (fun h => by cases h), e5 := (fun h => by cases h), e6 := (fun h => by cases h), e7 := (fun h => by cases h), e8 := (fun h => by cases h), e9 := (fun h => by cases h), e10 := (fun h => by cases h), e11 := (fun h => by cases h), e12 := (fun h => by cases h), f13 := (fun h => by cases h), e13 := (fun h => by cases h) }
    case done =>
      rintro L a W hall ⟨s2, s10, s11, s12, s13, s14, s15, s16, s17, s18, s19, s20, s21, s22, rfl, hI⟩
      obtain rfl := hI.e13 (hall 13 (by simp))
      obtain ⟨A', c', rfl, hrd⟩ := hI.e12 (hall 12 (by simp))
      have HD := Lib.hid (And.intro hI.bel hrd)
      clear hI
      dsimp only [Exit.then]
      refine hK _ _ ?_
      go_wp2
      go_ret2
      exact ⟨⟨_, rfl, fun _ => ⟨A', c', rfl, HD.out.2⟩, fun h => absurd rfl h⟩, below_then ((Below.refl _ w).alloc (Nat.le_refl _) _) (below_then HB1.out HD.out.1 HB1.out.size) (by simp)⟩
    case step =>
      rintro i o L a W ho hl he ⟨s2, s10, s11, s12, s13, s14, s15, s16, s17, s18, s19, s20, s21, s22, rfl, hI⟩
      have hi : i < 15 := (Array.getElem?_eq_some_iff.1 ho).1
      have HI := Lib.hid hI
      clear hI
      rcases i with _ | _ | _ | _ | _ | _ | _ | _ | _ | _ | _ | _ | _ | _ | _ | i
      case _ =>
        simp at ho
        subst ho
        rw [if_pos (by rfl)]
        refine of_all fun K2 hK2 => ?_
        have I := HI.out
        go_simp
        refine hK2 _ _ ⟨_, _, _, _, _, _, _, _, _, _, _, _, _, _, rfl, ?_⟩
        exact { bel := I.bel, e0 := (fun _ => rfl), e1 := I.e1, e2 := I.e2, e3 := I.e3, e4 := I.e4, e5 := I.e5, e6 := I.e6, e7 := I.e7, e8 := I.e8, e9 := I.e9, e10 := I.e10, e11 := I.e11, e12 := I.e12, f13 := I.f13, e13 := I.e13 }
      case _ =>
        simp at ho
        subst ho
        have d0 := he ⟨0, .data⟩ (by simp) rfl
        rw [if_pos (by rfl)]
        refine of_all fun K2 hK2 => ?_
        have I := HI.out
        obtain rfl := I.e0 d0
        have hk := (HK.out.kept I.bel).cells
        go_simp
        refine hK2 _ _ ⟨_, _, _, _, _, _, _, _, _, _, _, _, _, _, rfl, ?_⟩
        exact { bel := I.bel, e0 := I.e0, e1 := (fun _ => rfl), e2 := I.e2, e3 := I.e3, e4 := I.e4, e5 := I.e5, e6 := I.e6, e7 := I.e7, e8 := I.e8, e9 := I.e9, e10 := I.e10, e11 := I.e11, e12 := I.e12, f13 := I.f13, e13 := I.e13 }
      case _ =>
        simp at ho
        subst ho
        have d1 := he ⟨1, .data⟩ (by simp) rfl
        rw [if_pos (by rfl)]
        refine of_all fun K2 hK2 => ?_
        have I := HI.out
        obtain rfl := I.e1 d1
        go_simp
        refine (num_r W r (by omega) hi2).mono ?_
        rw [← H2.out]
        rintro e W' ⟨rfl, hb⟩
        have I := I.below hb
        refine hK2 _ _ ⟨_, _, _, _, _, _, _, _, _, _, _, _, _, _, rfl, ?_⟩
        exact { bel := I.bel, e0 := I.e0, e1 := I.e1, e2 := (fun _ => rfl), e3 := I.e3, e4 := I.e4, e5 := I.e5, e6 := I.e6, e7 := I.e7, e8 := I.e8, e9 := I.e9, e10 := I.e10, e11 := I.e11, e12 := I.e12, f13 := I.f13, e13 := I.e13 }
      case _ =>
        simp at ho
        subst ho
        have d2 := he ⟨2, .data⟩ (by simp) rfl
        rw [if_pos (by rfl)]
        refine of_all fun K2 hK2 => ?_
        have I := HI.out
        obtain rfl := I.e2 d2
        go_simp
        rw [if_neg (by omega)]
        go_simp
        refine hK2 _ _ ⟨_, _, _, _, _, _, _, _, _, _, _, _, _, _, rfl, ?_⟩
        exact { bel := I.bel, e0 := I.e0, e1 := I.e1, e2 := I.e2, e3 := (fun _ => by rw [H3.out]; exact cat_eq T2 [47]), e4 := I.e4, e5 := I.e5, e6 := I.e6, e7 := I.e7, e8 := I.e8, e9 := I.e9, e10 := I.e10, e11 := I.e11, e12 := I.e12, f13 := I.f13, e13 := I.e13 }
      case _ =>
        simp at ho
        subst ho
        rw [if_pos (by rfl)]
        refine of_all fun K2 hK2 => ?_
        have I := HI.out
        go_simp
        refine hK2 _ _ ⟨_, _, _, _, _, _, _, _, _, _, _, _, _, _, rfl, ?_⟩
        exact { bel := I.bel, e0 := I.e0, e1 := I.e1, e2 := I.e2, e3 := I.e3, e4 := (fun _ => rfl), e5 := I.e5, e6 := I.e6, e7 := I.e7, e8 := I.e8, e9 := I.e9, e10 := I.e10, e11 := I.e11, e12 := I.e12, f13 := I.f13, e13 := I.e13 }
      case _ =>
        simp at ho
        subst ho
        have d4 := he ⟨4, .data⟩ (by simp) rfl
        rw [if_pos (by rfl)]
        refine of_all fun K2 hK2 => ?_
        have I := HI.out
        obtain rfl := I.e4 d4
        have hk := (HK.out.kept I.bel).cells
        go_simp
        refine hK2 _ _ ⟨_, _, _, _, _, _, _, _, _, _, _, _, _, _, rfl, ?_⟩
        exact { bel := I.bel, e0 := I.e0, e1 := I.e1, e2 := I.e2, e3 := I.e3, e4 := I.e4, e5 := (fun _ => rfl), e6 := I.e6, e7 := I.e7, e8 := I.e8, e9 := I.e9, e10 := I.e10, e11 := I.e11, e12 := I.e12, f13 := I.f13, e13 := I.e13 }
      case _ =>
        simp at ho
        subst ho
        have d5 := he ⟨5, .data⟩ (by simp) rfl
        rw [if_pos (by rfl)]
        refine of_all fun K2 hK2 => ?_
        have I := HI.out
        obtain rfl := I.e5 d5
        go_simp
        refine (refFlags_any r.f W).mono ?_
        rw [← H6.out]
        rintro e W' ⟨rfl, hb⟩
        have I := I.below hb
        refine hK2 _ _ ⟨_, _, _, _, _, _, _, _, _, _, _, _, _, _, rfl, ?_⟩
        exact { bel := I.bel, e0 := I.e0, e1 := I.e1, e2 := I.e2, e3 := I.e3, e4 := I.e4, e5 := I.e5, e6 := (fun _ => rfl), e7 := I.e7, e8 := I.e8, e9 := I.e9, e10 := I.e10, e11 := I.e11, e12 := I.e12, f13 := I.f13, e13 := I.e13 }
      case _ =>
        simp at ho
        subst ho
        have d3 := he ⟨3, .data⟩ (by simp) rfl
        have d6 := he ⟨6, .data⟩ (by simp) rfl
        rw [if_pos (by rfl)]
        refine of_all fun K2 hK2 => ?_
        have I := HI.out
        obtain rfl := I.e3 d3
        obtain rfl := I.e6 d6
        go_simp
        rw [if_neg (by omega)]
        go_simp
        refine hK2 _ _ ⟨_, _, _, _, _, _, _, _, _, _, _, _, _, _, rfl, ?_⟩
        exact { bel := I.bel, e0 := I.e0, e1 := I.e1, e2 := I.e2, e3 := I.e3, e4 := I.e4, e5 := I.e5, e6 := I.e6, e7 := (fun _ => by rw [H7.out]; exact cat_eq T3 T6), e8 := I.e8, e9 := I.e9, e10 := I.e10, e11 := I.e11, e12 := I.e12, f13 := I.f13, e13 := I.e13 }
      case _ =>
        simp at ho
        subst ho
        have d7 := he ⟨7, .data⟩ (by simp) rfl
        rw [if_pos (by rfl)]
        refine of_all fun K2 hK2 => ?_
        have I := HI.out
        obtain rfl := I.e7 d7
        go_simp
        rw [if_neg (by omega)]
        go_simp
        refine hK2 _ _ ⟨_, _, _, _, _, _, _, _, _, _, _, _, _, _, rfl, ?_⟩
        exact { bel := I.bel, e0 := I.e0, e1 := I.e1, e2 := I.e2, e3 := I.e3, e4 := I.e4, e5 := I.e5, e6 := I.e6, e7 := I.e7, e8 := (fun _ => by rw [H8.out]; exact cat_eq T7 [47]), e9 := I.e9, e10 := I.e10, e11 := I.e11, e12 := I.e12, f13 := I.f13, e13 := I.e13 }
      case _ =>
        simp at ho
        subst ho
        have d8 := he ⟨8, .data⟩ (by simp) rfl
        rw [if_pos (by rfl)]
        refine of_all fun K2 hK2 => ?_
        have I := HI.out
        obtain rfl := I.e8 d8
        have hcv := run_conv W T8
        go_simp
        have I := I.below (below_bytesWorld W 5 ⟨T8.toArray⟩)
        refine hK2 _ _ ⟨_, _, _, _, _, _, _, _, _, _, _, _, _, _, rfl, ?_⟩
        exact { bel := I.bel, e0 := I.e0, e1 := I.e1, e2 := I.e2, e3 := I.e3, e4 := I.e4, e5 := I.e5, e6 := I.e6, e7 := I.e7, e8 := I.e8, e9 := (fun _ _ => own_conv HI.out.bel), e10 := I.e10, e11 := I.e11, e12 := I.e12, f13 := I.f13, e13 := I.e13 }
      case _ =>
        simp at ho
        subst ho
        rw [if_pos (by rfl)]
        refine of_all fun K2 hK2 => ?_
        have I := HI.out
        go_simp
        refine hK2 _ _ ⟨_, _, _, _, _, _, _, _, _, _, _, _, _, _, rfl, ?_⟩
        exact { bel := I.bel, e0 := I.e0, e1 := I.e1, e2 := I.e2, e3 := I.e3, e4 := I.e4, e5 := I.e5, e6 := I.e6, e7 := I.e7, e8 := I.e8, e9 := I.e9, e10 := (fun _ => rfl), e11 := I.e11, e12 := I.e12, f13 := I.f13, e13 := I.e13 }
      case _ =>
        simp at ho
        subst ho
        have d10 := he ⟨10, .data⟩ (by simp) rfl
        rw [if_pos (by rfl)]
        refine of_all fun K2 hK2 => ?_
        have I := HI.out
        obtain rfl := I.e10 d10
        have hk := (HK.out.kept I.bel).cells
        go_simp
        refine hK2 _ _ ⟨_, _, _, _, _, _, _, _, _, _, _, _, _, _, rfl, ?_⟩
        exact { bel := I.bel, e0 := I.e0, e1 := I.e1, e2 := I.e2, e3 := I.e3, e4 := I.e4, e5 := I.e5, e6 := I.e6, e7 := I.e7, e8 := I.e8, e9 := I.e9, e10 := I.e10, e11 := (fun _ => rfl), e12 := I.e12, f13 := I.f13, e13 := I.e13 }
      case _ =>
        simp at ho
        subst ho
        have d9 := he ⟨9, .data⟩ (by simp) rfl
        have d11 := he ⟨11, .data⟩ (by simp) rfl
        rw [if_pos (by rfl)]
        refine of_all fun K2 hK2 => ?_
        have I := HI.out
        obtain rfl := I.e11 d11
        have ho9 := I.e9 d9 hl
        refine wp_append_conv (.tmp 19) (.tmp 21) 24 rfl 5 i0 Tryd.underlying24 hii hz0 hz1 hz2 w1.heap.size _ _ rfl ho9 A c _ r.p rfl (HRR.out _ I.bel) (by rw [bcells_length]; omega) ?_
        intro A' c' W' hrd hgr
        have hb' : Below w1.heap.size w1 W' := Below.grown I.bel hgr I.bel.size (fun q e => conv_base ho9 q e)
        refine hK2 _ _ ⟨_, _, _, _, _, _, _, _, _, _, _, _, _, _, rfl, ?_⟩
        exact { bel := hb', e0 := I.e0, e1 := I.e1, e2 := I.e2, e3 := I.e3, e4 := I.e4, e5 := I.e5, e6 := I.e6, e7 := I.e7, e8 := I.e8, e9 := (fun _ h => by cases h), e10 := I.e10, e11 := I.e11, e12 := (fun _ => ⟨A', c', line_slice H9.out A' c', line_reads H9.out hrd⟩), f13 := (fun h => by have := I.f13 h; rw [hl] at this; cases this), e13 := (fun h => by have := I.f13 h; rw [hl] at this; cases this) }
      case _ =>
        simp at ho
        subst ho
        have d12 := he ⟨12, .data⟩ (by simp) rfl
        rw [if_pos (by rfl)]
        refine of_all fun K2 hK2 => ?_
        have I := HI.out
        go_simp
        refine hK2 _ _ ⟨_, _, _, _, _, _, _, _, _, _, _, _, _, _, rfl, ?_⟩
        exact { bel := I.bel, e0 := I.e0, e1 := I.e1, e2 := I.e2, e3 := I.e3, e4 := I.e4, e5 := I.e5, e6 := I.e6, e7 := I.e7, e8 := I.e8, e9 := I.e9, e10 := I.e10, e11 := I.e11, e12 := I.e12, f13 := (fun _ => d12), e13 := (fun _ => rfl) }
      case _ =>
        simp at ho
        subst ho
        rw [if_pos (by rfl)]
        refine of_all fun K2 hK2 => ?_
        have I := HI.out
        go_simp
        refine hK2 _ _ ⟨_, _, _, _, _, _, _, _, _, _, _, _, _, _, rfl, ?_⟩
        exact { bel := I.bel, e0 := I.e0, e1 := I.e1, e2 := I.e2, e3 := I.e3, e4 := I.e4, e5 := I.e5, e6 := I.e6, e7 := I.e7, e8 := I.e8, e9 := I.e9, e10 := I.e10, e11 := I.e11, e12 := I.e12, f13 := I.f13, e13 := I.e13 }
      · omega
  · have he := bne_iff_ne.2 h0
    unfold Ru.v Ru.cells
    go_enter Tryd.func40, Tryd.ntmps40
    go_wp2_with (go_at_call 39; (with_reducible refine (rcheck_lit _ r A c (HP.out _) hn).mono ?_); rintro e w1 ⟨rfl, hb1⟩; rw [← HE.out]; have HB1 := Lib.hid hb1; clear hb1)
    go_ret2
    exact ⟨⟨_, rfl, fun h => absurd h h0, fun _ => rfl⟩, below_then ((Below.refl _ w).alloc (Nat.le_refl _) _) HB1.out (by simp)⟩
end Go.Proofs.YtkfjnllbjlndlaaDoor
