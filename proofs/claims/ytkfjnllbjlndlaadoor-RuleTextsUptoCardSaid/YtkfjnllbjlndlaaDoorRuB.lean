/- rule.Check, rule.Clone, rule.Line. -/
import Derived.Test.YtkfjnllbjlndlaaDoorRuA
import Derived.Test.YtkfjnllbjlndlaaDoorInv
import Derived.Test.YtkfjnllbjlndlaaDoorFlA
import Derived.Test.YtkfjnllbjlndlaaDoorShelf
import Derived.Lib.IndexLaws
import Derived.Outline
namespace Go.Proofs.YtkfjnllbjlndlaaDoor
open Go.RowKit

/-- What is wrong with a rule. -/
def Ru.chk (r : Ru) : Int := if r.id < 1 ∨ 2147483648 < r.id ∨ 0 ≤ Lib.indexByte r.p 10 then 200 else if 1024 < r.p.length then 3 else 0
def Ru.line (r : Ru) : List UInt8 := Lib.itoa r.id ++ [47] ++ Fl.lets r.f ++ [47] ++ r.p

set_option maxRecDepth 100000 in
set_option maxHeartbeats 2000000 in
theorem check_any (w : World) (r : Ru) (A : Option Addr) (c : Nat) (h : RdB w w.heap.size A r.p) :
    Calls Tryd.prog 35 #[r.v A c] w fun e w' => e = .returned (.int .i64 r.chk) ∧ Below w.heap.size w w' := by
  obtain ⟨id, f, p⟩ := r
  unfold Ru.v Ru.cells Ru.chk
  simp only at h ⊢
  have H := Lib.hid (show ∀ o, RdB (w.alloc o) (w.alloc o).heap.size A p from fun o => Reads.more (Reads.alloc h (Nat.le_refl _) _) (by simp))
  have HB := Lib.hid (show ∀ o, Below w.heap.size w (w.alloc o) from fun o => (Below.refl _ w).alloc (Nat.le_refl _) _)
  clear h
  obtain ⟨ix, hix⟩ : ∃ ix, ix = Lib.indexByte p 10 := ⟨_, rfl⟩
  rw [← hix]
  have HI := Lib.hid hix
  clear hix
  by_cases h1 : id < 1
  · rw [if_pos (.inl h1)]
    go_enter Tryd.func35, Tryd.ntmps35
    go_wp2
    go_ret
    exact ⟨rfl, HB.out _⟩
  · by_cases h2 : 2147483648 < id
    · rw [if_pos (.inr (.inl h2))]
      go_enter Tryd.func35, Tryd.ntmps35
      go_wp2
      go_ret
      exact ⟨rfl, HB.out _⟩
    · by_cases h3 : 0 ≤ ix
      · rw [if_pos (.inr (.inr h3))]
        go_enter Tryd.func35, Tryd.ntmps35
        go_wp2_with (go_at_call 59; refine (indexByte_any _ _ A c p 10 (H.out _)).mono ?_; rintro e w1 ⟨rfl, rfl⟩; rw [← HI.out])
        go_ret
        exact ⟨rfl, HB.out _⟩
      · rw [if_neg (by omega)]
        by_cases h4 : 1024 < p.length
        · rw [if_pos h4]
          have h5 : (1024 : Int) < (p.length : Int) := by omega
          go_enter Tryd.func35, Tryd.ntmps35
          go_wp2_with (go_at_call 59; refine (indexByte_any _ _ A c p 10 (H.out _)).mono ?_; rintro e w1 ⟨rfl, rfl⟩; rw [← HI.out])
          go_ret
          exact ⟨rfl, HB.out _⟩
        · rw [if_neg h4]
          have h5 : ¬ (1024 : Int) < (p.length : Int) := by omega
          go_enter Tryd.func35, Tryd.ntmps35
          go_wp2_with (go_at_call 59; refine (indexByte_any _ _ A c p 10 (H.out _)).mono ?_; rintro e w1 ⟨rfl, rfl⟩; rw [← HI.out])
          go_ret
          exact ⟨rfl, HB.out _⟩

/-- The table that strconv reads. -/
def Tb (w : World) : Prop := Lib.TabIs Tryd.prog w "internal/strconv.uint64pow10" .u64 Lib.pow10Tab
theorem Tb.on {w w' : World} (h : Tb w) (hb : Below w.heap.size w w') : Tb w' := ((Lib.tabBelow_of_tabIs h).on hb).here
theorem Tb.low {w : World} (h : Tb w) : Lib.TabBelow Tryd.prog w.heap.size w "internal/strconv.uint64pow10" .u64 Lib.pow10Tab := Lib.tabBelow_of_tabIs h
theorem chk_ok {r : Ru} (h : r.chk = 0) : 1 ≤ r.id ∧ r.id ≤ 2147483648 ∧ Lib.indexByte r.p 10 < 0 ∧ r.p.length ≤ 1024 := by
  unfold Ru.chk at h
  split at h
  · omega
  · split at h
    · omega
    · omega
theorem nDigits_le (k : Nat) : ∀ u, u < 10 ^ (k + 1) → Lib.nDigits u ≤ k + 1 := by
  induction k with
  | zero => intro u hu; rw [Lib.nDigits, dif_pos (by simpa using hu)]; omega
  | succ k ih =>
    intro u hu
    rw [Lib.nDigits]
    split
    · omega
    · have := ih (u / 10) (by rw [Nat.pow_succ] at hu; omega)
      omega
theorem nDigits_pos (u : Nat) : 0 < Lib.nDigits u := by
  rw [Lib.nDigits]
  split <;> omega
theorem itoa_len (n : Int) (h0 : 0 ≤ n) (h1 : n ≤ 2147483648) : (Lib.itoa n).length ≤ 21 := by
  unfold Lib.itoa
  rw [if_neg (by omega), Lib.decDigits_length]
  have := nDigits_le 9 n.toNat (by omega)
  omega

/-- What has been written at each stage. -/
def Ru.part (r : Ru) (st : Nat) : List UInt8 := if st = 0 then Lib.itoa r.id else if st = 1 then Lib.itoa r.id ++ [47] else if st = 2 then Lib.itoa r.id ++ [47] ++ Fl.lets r.f else Lib.itoa r.id ++ [47] ++ Fl.lets r.f ++ [47]
/-- A new block with a '/', apart from the row. -/
def Slash (W : World) (cur s : Value) : Prop := ∃ g, s = .slice (some ⟨g, 0, none⟩) 1 1 ∧ Bk W g 5 #[.int .u8 47] ∧ cur.ownBlock ≠ some g
structure LineI (L : Nat → Bool) (W w1 : World) (r : Ru) (g1 : Nat) (v2 s5 s14 s15 s16 s17 s18 s19 s20 s21 s22 cur : Value) (st : Nat) : Prop where
  bel : Below w1.heap.size w1 W
  own : W.ownsRow w1.heap.size 5 1 cur (r.part st).length (bcells (r.part st))
  l2 : L 2 = decide (1 ≤ st)
  l6 : L 6 = decide (2 ≤ st)
  l8 : L 8 = decide (3 ≤ st)
  l9 : L 9 = false → s5 = v2
  l9' : L 9 = true → s5 = s22
  c0 : st = 0 → cur = v2
  c1 : st = 1 → cur = s16
  c2 : st = 2 → cur = s20
  c3 : st = 3 → cur = s22
  le : st ≤ 3
  f0 : 1 ≤ st → L 0 = true
  f9 : L 9 = true → st = 3
  e0 : L 0 = true → s14 = v2
  e3 : L 3 = true → s17 = .pointer (some ⟨g1, 1, none⟩)
  e4 : L 4 = true → s18 = r.f.v
  e5 : L 5 = true → s19 = .string ⟨(Fl.lets r.f).toArray⟩
  e1 : L 1 = true → st = 0 → Slash W cur s15
  e7 : L 7 = true → st ≤ 2 → Slash W cur s21

theorem Slash.alloc {W : World} {cur s : Value} (h : Slash W cur s) (o : Obj) : Slash (W.alloc o) cur s := by
  obtain ⟨g, a, b, c⟩ := h
  exact ⟨g, a, b.alloc o, c⟩
theorem Slash.below {W W' : World} {cur s : Value} (h : Slash W cur s) (hb : Below W.heap.size W W') : Slash W' cur s := by
  obtain ⟨g, a, b, c⟩ := h
  exact ⟨g, a, b.kept hb, c⟩
theorem Slash.grown {W W' : World} {cur cur' s : Value} {base n : Nat} {xs : List Value} (h : Slash W cur s) (hb : W.grownBy W' cur.ownBlock) (ho : W'.ownsRow base 5 1 cur' n xs) (hn : 1 < n) : Slash W' cur' s := by
  obtain ⟨g, a, b, c⟩ := h
  have hk := b.grown hb (fun e => c e.symm)
  exact ⟨g, a, hk, own_ne_small ho hk hn⟩
theorem Bk.at_add {W : World} {g : Nat} {t : TypeId} {x : Value} (h : Bk W g t #[x]) (j : Nat) : W.cell? ((⟨g, 0, none⟩ : Addr).add j) = [x][j]? := by
  have h2 : (⟨g, 0, none⟩ : Addr).add j = ⟨g, j, none⟩ := by unfold Addr.add; split <;> simp_all
  rw [h2, h.cells j]
  simp
theorem lets_len (f : Fl.F5) : (Fl.lets f).length ≤ 5 := by
  obtain ⟨a, b, c, d, e⟩ := f
  cases a <;> cases b <;> cases c <;> cases d <;> cases e <;> decide
theorem lets_ba (f : Fl.F5) : (⟨(Fl.lets f).toArray⟩ : ByteArray).size = (Fl.lets f).length := rfl
theorem part_len (r : Ru) (st : Nat) (h0 : 0 ≤ r.id) (h1 : r.id ≤ 2147483648) : (r.part st).length ≤ 40 := by
  have h2 := itoa_len r.id h0 h1
  have h3 := lets_len r.f
  unfold Ru.part
  split
  · omega
  · split
    · simp; omega
    · split <;> (simp; omega)
theorem itoa_pos (n : Int) : 0 < (Lib.itoa n).length := by
  unfold Lib.itoa
  split
  · simp
  · rw [Lib.decDigits_length]; exact nDigits_pos _
theorem part_pos (r : Ru) (st : Nat) (_ : 0 ≤ st) : 1 ≤ (r.part st).length := by
  have h := itoa_pos r.id
  unfold Ru.part
  split
  · omega
  · split
    · simp
    · split <;> (simp; omega)
theorem part_two {W : World} {base : Nat} {r : Ru} {v : Value} (h : W.ownsRow base 5 1 v ((r.part 1).length + (⟨(Fl.lets r.f).toArray⟩ : ByteArray).size) (bcells (r.part 1) ++ Lib.strCells ⟨(Fl.lets r.f).toArray⟩)) : W.ownsRow base 5 1 v (r.part 2).length (bcells (r.part 2)) := by
  have e1 : Lib.strCells ⟨(Fl.lets r.f).toArray⟩ = bcells (Fl.lets r.f) := by simp [Lib.strCells, bcells]
  rw [e1, ← bcells_append, lets_ba, ← List.length_append] at h
  exact h

theorem part_three {W : World} {base : Nat} {r : Ru} {v : Value} (h : W.ownsRow base 5 1 v ((r.part 2).length + 1) (bcells (r.part 2) ++ [.int .u8 47])) : W.ownsRow base 5 1 v (r.part 3).length (bcells (r.part 3)) := by
  have e1 : [Value.int .u8 47] = bcells [47] := rfl
  rw [e1, ← bcells_append, show (r.part 2).length + 1 = (r.part 2 ++ [47]).length by simp] at h
  exact h

set_option maxRecDepth 100000 in
set_option maxHeartbeats 4000000 in
theorem line_any (w : World) (r : Ru) (A : Option Addr) (c : Nat) (h : RdB w w.heap.size A r.p) (ht : Tb w) :
    Calls Tryd.prog 13 #[r.v A c] w fun e w' => (∃ v, e = .returned (.tuple #[v, .int .i64 r.chk]) ∧ (r.chk = 0 → w'.ownsRow w.heap.size 5 1 v r.line.length (bcells r.line)) ∧ (r.chk ≠ 0 → v = .slice none 0 0)) ∧ Below w.heap.size w w' := by
  obtain ⟨i0, hii, hz0, hz1, hz2⟩ := info_parts infoU8
  have HR := Lib.hid h
  have HT := Lib.hid ht
  clear h ht
  obtain ⟨e, he⟩ : ∃ e, e = r.chk := ⟨_, rfl⟩
  rw [← he]
  have HE := Lib.hid he
  clear he
  by_cases h0 : e = 0
  · subst h0
    obtain ⟨hi1, hi2, hix, hpl⟩ := chk_ok HE.out.symm
    have hdl := itoa_len r.id (by omega) hi2
    have HIX := Lib.hid hix
    clear hix
    unfold Ru.v Ru.cells
    go_enter Tryd.func13, Tryd.ntmps13
    go_wp2_with (first | (go_at_call 36; refine (Tryd.strconv_AppendInt_10 _ 0 r.id (by omega) (by omega) _ [] _ (World.ownsRow_nil _ _ _ _) (Nat.le_refl _) (by omega) T1.out.low).mono ?_; rintro e w2 ⟨v2, rfl, ho, hb2, _⟩; have HO := Lib.hid ho; have HB2 := Lib.hid hb2; clear ho hb2) | (go_at_call 35; refine (check_any _ r A c (Reads.more (Reads.alloc HR.out (Nat.le_refl _) _) (by simp))).mono ?_; rintro e w1 ⟨rfl, hb1⟩; rw [← HE.out]; have HB1 := Lib.hid hb1; have hk := ((Bk.new w 26 (r.cells A c)).kept hb1); unfold Ru.cells at hk; have HK := Lib.hid hk; have hk1 := hk.cells; have T1 := Lib.hid (HT.out.on (below_then ((Below.refl _ w).alloc (Nat.le_refl _) _) hb1 (by simp))); clear hb1 hk))
    have HIT := Lib.hid (show w2.ownsRow w1.heap.size 5 1 v2 (Lib.itoa r.id).length (bcells (Lib.itoa r.id)) by simpa [bcells, Lib.byteCells] using HO.out)
    clear HO
    rename_i hK
    refine wp_region_inv (by kernel_rfl) (by kernel_rfl) (fun L a W => ∃ (s5 s14 s15 s16 s17 s18 s19 s20 s21 s22 cur : Value) (st : Nat),
      a = { tmps := #[.agg #[.int .i64 r.id, .bool r.f.i, .bool r.f.s, .bool r.f.m, .bool r.f.o, .bool r.f.l, .slice A r.p.length c], .pointer (some ⟨w.heap.size, 0, none⟩), .slice none 0 0, .int .i64 0, .int .i64 0, s5, .agg #[.int .i64 r.id, .bool r.f.i, .bool r.f.s, .bool r.f.m, .bool r.f.o, .bool r.f.l, .slice A r.p.length c], .int .i64 0, .int .i64 0, .bool false, undef, .pointer (some ⟨w.heap.size, 0, none⟩), .int .i64 r.id, v2, s14, s15, s16, s17, s18, s19, s20, s21, s22, undef, undef, undef, undef], defers := [] } ∧
      LineI L W w1 r w.heap.size v2 s5 s14 s15 s16 s17 s18 s19 s20 s21 s22 cur st) ?h0 ?step ?done
    case h0 =>
      refine ⟨_, _, _, _, _, _, _, _, _, _, v2, 0, rfl, ?_⟩
      exact { bel := HB2.out.drew, own := own_below HIT.out ((Below.refl _ _).drew), l2 := rfl, l6 := rfl, l8 := rfl, l9 := fun _ => rfl, l9' := (fun h => by cases h), c0 := fun _ => rfl, c1 := (fun h => by cases h), c2 := (fun h => by cases h), c3 := (fun h => by cases h), le := by omega, f0 := (fun h => by omega), f9 := (fun h => by cases h), e0 := (fun h => by cases h), e3 := (fun h => by cases h), e4 := (fun h => by cases h), e5 := (fun h => by cases h), e1 := (fun h => by cases h), e7 := (fun h => by cases h) }
    case done =>
      rintro L a W hall ⟨s5, s14, s15, s16, s17, s18, s19, s20, s21, s22, cur, st, rfl, hI⟩
      have h9 := hall 9 (by simp)
      obtain rfl := hI.f9 h9
      obtain rfl := hI.l9' h9
      obtain rfl := hI.c3 rfl
      have HI := Lib.hid hI
      have hk := (HK.out.kept hI.bel).cells
      clear hI
      dsimp only [Exit.then]
      refine hK _ _ ?_
      have HRR := Lib.hid (show RdB W w.heap.size A r.p from Reads.below (Reads.below (Reads.alloc HR.out (Nat.le_refl _) _) (HB1.out.mono (by simp))) (HI.out.bel.mono (by have := HB1.out.size; simp at this; omega)))
      have hpn := part_len r 3 (by omega) hi2
      go_wp2_with (at_builtin; refine wpList_append_rd rfl _ _ 24 rfl w1.heap.size 5 i0 Tryd.underlying24 hii hz0 hz1 hz2 _ _ _ rfl HI.out.own A c _ r.p rfl HRR.out (by omega) HI.out.bel.size ?_)
      intro v' W' hown hgr
      have HO := Lib.hid hown
      have HG := Lib.hid hgr
      clear hown hgr
      go_wp2
      go_ret2
      have hws : w.heap.size + 1 ≤ w1.heap.size := by have := HB1.out.size; simpa using this
      refine ⟨⟨v', rfl, fun _ => ?_, fun h => absurd rfl h⟩, ?_⟩
      · rw [← bcells_append, ← List.length_append] at HO
        exact own_mono HO.out (by omega)
      · exact Below.grown (below_then (below_then ((Below.refl _ w).alloc (Nat.le_refl _) _) HB1.out (by simp)) HI.out.bel (by omega)) HG.out (by have := HI.out.bel.size; omega) (fun q e => by have := own_base HI.out.own q e; omega)
    case step =>
      rintro i o L a W ho hl he ⟨s5, s14, s15, s16, s17, s18, s19, s20, s21, s22, cur, st, rfl, hI⟩
      have hi : i < 10 := (Array.getElem?_eq_some_iff.1 ho).1
      have HI := Lib.hid hI
      clear hI HR HT HIX HB1 HIT hk1 T1
      have hlen := part_len r st (by omega) hi2
      have hone := part_pos r st (by omega)
      rcases i with _ | _ | _ | _ | _ | _ | _ | _ | _ | _ | i
      case _ =>
        simp at ho
        subst ho
        rw [if_pos (by rfl)]
        refine of_all fun K2 hK2 => ?_
        go_simp
        refine hK2 _ _ ⟨s5, s5, s15, s16, s17, s18, s19, s20, s21, s22, cur, st, rfl, ?_⟩
        have I := HI.out
        have hst : ¬ 1 ≤ st := fun h => by rw [I.f0 h] at hl; cases hl
        have h9 : L 9 = false := by
          cases h : L 9
          · rfl
          · have := I.f9 h; omega
        exact { bel := I.bel, own := I.own, l2 := I.l2, l6 := I.l6, l8 := I.l8, l9 := I.l9, l9' := I.l9', c0 := I.c0, c1 := I.c1, c2 := I.c2, c3 := I.c3, le := I.le, f0 := (fun _ => rfl), f9 := I.f9, e0 := (fun _ => I.l9 h9), e3 := I.e3, e4 := I.e4, e5 := I.e5, e1 := I.e1, e7 := I.e7 }
      case _ =>
        simp at ho
        subst ho
        rw [if_pos (by rfl)]
        refine of_all fun K2 hK2 => ?_
        go_simp
        refine hK2 _ _ ⟨s5, s14, _, s16, s17, s18, s19, s20, s21, s22, cur, st, rfl, ?_⟩
        have I := HI.out
        exact { bel := I.bel.alloc I.bel.size _, own := I.own.alloc _, l2 := I.l2, l6 := I.l6, l8 := I.l8, l9 := I.l9, l9' := I.l9', c0 := I.c0, c1 := I.c1, c2 := I.c2, c3 := I.c3, le := I.le, f0 := I.f0, f9 := I.f9, e0 := I.e0, e3 := I.e3, e4 := I.e4, e5 := I.e5, e1 := (fun _ _ => ⟨_, rfl, Bk.new _ _ _, own_ne_new I.own (Nat.le_refl _)⟩), e7 := (fun h h2 => (I.e7 h h2).alloc _) }
      case _ =>
        simp at ho
        subst ho
        have h0 := he ⟨0, .data⟩ (by simp) rfl
        have h1 := he ⟨1, .data⟩ (by simp) rfl
        rw [if_pos (by rfl)]
        refine of_all fun K2 hK2 => ?_
        have I := HI.out
        obtain rfl : st = 0 := by
          have := I.l2
          rw [hl] at this
          have := (decide_eq_false_iff_not.1 this.symm)
          omega
        obtain rfl := I.e0 h0
        obtain rfl := I.c0 rfl
        obtain ⟨g, rfl, hg, hgn⟩ := I.e1 h1 rfl
        refine wp_append_cells (.tmp 14) (.tmp 15) 24 rfl w1.heap.size 5 i0 (.int .u8 0) 1 1 Tryd.underlying24 hii hz0 hz1 hz2 rfl (by decide) _ _ _ rfl I.own ⟨g, 0, none⟩ 1 1 [.int .u8 47] rfl rfl (fun j u hj => by rw [hg.at_add j]; exact hj) (fun u hu => by simp at hu; subst hu; rfl) (by unfold maxLen; omega) (by omega) I.bel.size ?_
        intro v' W' hown hgr
        refine hK2 _ _ ⟨s5, _, _, v', s17, s18, s19, s20, s21, s22, v', 1, rfl, ?_⟩
        exact { bel := Below.grown I.bel hgr I.bel.size (fun q e => own_base I.own q e), own := by simpa [Ru.part, bcells_append, bcells] using hown, l2 := rfl, l6 := I.l6, l8 := I.l8, l9 := I.l9, l9' := I.l9', c0 := (fun h => by cases h), c1 := (fun _ => rfl), c2 := (fun h => by cases h), c3 := (fun h => by cases h), le := by omega, f0 := (fun _ => h0), f9 := (fun h => by have := I.f9 h; cases this), e0 := (fun _ => rfl), e3 := I.e3, e4 := I.e4, e5 := I.e5, e1 := (fun _ h => by cases h), e7 := (fun h _ => (I.e7 h (by omega)).grown hgr hown (by omega)) }
      case _ =>
        simp at ho
        subst ho
        rw [if_pos (by rfl)]
        refine of_all fun K2 hK2 => ?_
        go_simp
        refine hK2 _ _ ⟨s5, s14, s15, s16, _, s18, s19, s20, s21, s22, cur, st, rfl, ?_⟩
        have I := HI.out
        exact { bel := I.bel, own := I.own, l2 := I.l2, l6 := I.l6, l8 := I.l8, l9 := I.l9, l9' := I.l9', c0 := I.c0, c1 := I.c1, c2 := I.c2, c3 := I.c3, le := I.le, f0 := I.f0, f9 := I.f9, e0 := I.e0, e3 := (fun _ => rfl), e4 := I.e4, e5 := I.e5, e1 := I.e1, e7 := I.e7 }
      case _ =>
        simp at ho
        subst ho
        have h3 := he ⟨3, .data⟩ (by simp) rfl
        rw [if_pos (by rfl)]
        refine of_all fun K2 hK2 => ?_
        have e := HI.out.e3 h3
        subst e
        have hk := (HK.out.kept HI.out.bel).cells
        go_simp
        refine hK2 _ _ ⟨s5, s14, s15, s16, _, _, s19, s20, s21, s22, cur, st, rfl, ?_⟩
        have I := HI.out
        exact { bel := I.bel, own := I.own, l2 := I.l2, l6 := I.l6, l8 := I.l8, l9 := I.l9, l9' := I.l9', c0 := I.c0, c1 := I.c1, c2 := I.c2, c3 := I.c3, le := I.le, f0 := I.f0, f9 := I.f9, e0 := I.e0, e3 := I.e3, e4 := (fun _ => rfl), e5 := I.e5, e1 := I.e1, e7 := I.e7 }
      case _ =>
        simp at ho
        subst ho
        have h4 := he ⟨4, .data⟩ (by simp) rfl
        rw [if_pos (by rfl)]
        refine of_all fun K2 hK2 => ?_
        have e := HI.out.e4 h4
        subst e
        go_simp
        refine (flags_any r.f W).mono ?_
        rintro e W' ⟨rfl, hb⟩
        refine hK2 _ _ ⟨s5, s14, s15, s16, s17, _, _, s20, s21, s22, cur, st, rfl, ?_⟩
        have I := HI.out
        exact { bel := below_then I.bel hb I.bel.size, own := own_below I.own hb, l2 := I.l2, l6 := I.l6, l8 := I.l8, l9 := I.l9, l9' := I.l9', c0 := I.c0, c1 := I.c1, c2 := I.c2, c3 := I.c3, le := I.le, f0 := I.f0, f9 := I.f9, e0 := I.e0, e3 := I.e3, e4 := I.e4, e5 := (fun _ => rfl), e1 := (fun h h2 => (I.e1 h h2).below hb), e7 := (fun h h2 => (I.e7 h h2).below hb) }
      case _ =>
        simp at ho
        subst ho
        have h2 := he ⟨2, .data⟩ (by simp) rfl
        have h5 := he ⟨5, .data⟩ (by simp) rfl
        rw [if_pos (by rfl)]
        refine of_all fun K2 hK2 => ?_
        have I := HI.out
        obtain rfl : st = 1 := by
          have a1 := I.l6
          have a2 := I.l2
          rw [hl] at a1
          rw [h2] at a2
          have := (decide_eq_false_iff_not.1 a1.symm)
          have := (of_decide_eq_true a2.symm)
          omega
        obtain rfl := I.c1 rfl
        obtain rfl := I.e5 h5
        have hfl := lets_len r.f
        have h8 := itoa_pos r.id
        have h9 : (r.part 1).length = (Lib.itoa r.id).length + 1 := by simp [Ru.part]
        refine wp_append_text (.tmp 16) (.tmp 19) 24 9 rfl w1.heap.size 5 i0 Tryd.underlying24 Tryd.underlying9 hii hz0 hz1 hz2 _ _ _ rfl I.own _ rfl (by rw [lets_ba]; unfold maxLen; omega) (by rw [lets_ba]; omega) I.bel.size ?_
        intro v' W' hown hgr
        refine hK2 _ _ ⟨s5, s14, s15, _, s17, s18, _, v', s21, s22, v', 2, rfl, ?_⟩
        exact { bel := Below.grown I.bel hgr I.bel.size (fun q e => own_base I.own q e), own := part_two hown, l2 := I.l2, l6 := rfl, l8 := I.l8, l9 := I.l9, l9' := I.l9', c0 := (fun h => by cases h), c1 := (fun h => by cases h), c2 := (fun _ => rfl), c3 := (fun h => by cases h), le := by omega, f0 := (fun _ => I.f0 (by omega)), f9 := (fun h => by have := I.f9 h; cases this), e0 := I.e0, e3 := I.e3, e4 := I.e4, e5 := (fun _ => rfl), e1 := (fun _ h => by cases h), e7 := (fun h _ => (I.e7 h (by omega)).grown hgr hown (by omega)) }
      case _ =>
        simp at ho
        subst ho
        rw [if_pos (by rfl)]
        refine of_all fun K2 hK2 => ?_
        go_simp
        refine hK2 _ _ ⟨s5, s14, s15, s16, s17, s18, s19, s20, _, s22, cur, st, rfl, ?_⟩
        have I := HI.out
        exact { bel := I.bel.alloc I.bel.size _, own := I.own.alloc _, l2 := I.l2, l6 := I.l6, l8 := I.l8, l9 := I.l9, l9' := I.l9', c0 := I.c0, c1 := I.c1, c2 := I.c2, c3 := I.c3, le := I.le, f0 := I.f0, f9 := I.f9, e0 := I.e0, e3 := I.e3, e4 := I.e4, e5 := I.e5, e1 := (fun h h2 => (I.e1 h h2).alloc _), e7 := (fun _ _ => ⟨_, rfl, Bk.new _ _ _, own_ne_new I.own (Nat.le_refl _)⟩) }
      case _ =>
        simp at ho
        subst ho
        have h6 := he ⟨6, .data⟩ (by simp) rfl
        have h7 := he ⟨7, .data⟩ (by simp) rfl
        rw [if_pos (by rfl)]
        refine of_all fun K2 hK2 => ?_
        have I := HI.out
        obtain rfl : st = 2 := by
          have a1 := I.l8
          have a2 := I.l6
          rw [hl] at a1
          rw [h6] at a2
          have := (decide_eq_false_iff_not.1 a1.symm)
          have := (of_decide_eq_true a2.symm)
          omega
        obtain rfl := I.c2 rfl
        obtain ⟨g, rfl, hg, hgn⟩ := I.e7 h7 (by omega)
        refine wp_append_cells (.tmp 20) (.tmp 21) 24 rfl w1.heap.size 5 i0 (.int .u8 0) 1 1 Tryd.underlying24 hii hz0 hz1 hz2 rfl (by decide) _ _ _ rfl I.own ⟨g, 0, none⟩ 1 1 [.int .u8 47] rfl rfl (fun j u hj => by rw [hg.at_add j]; exact hj) (fun u hu => by simp at hu; subst hu; rfl) (by unfold maxLen; omega) (by omega) I.bel.size ?_
        intro v' W' hown hgr
        refine hK2 _ _ ⟨s5, s14, s15, s16, s17, s18, s19, _, _, v', v', 3, rfl, ?_⟩
        exact { bel := Below.grown I.bel hgr I.bel.size (fun q e => own_base I.own q e), own := part_three hown, l2 := I.l2, l6 := I.l6, l8 := rfl, l9 := I.l9, l9' := (fun h => by have := I.f9 h; cases this), c0 := (fun h => by cases h), c1 := (fun h => by cases h), c2 := (fun h => by cases h), c3 := (fun _ => rfl), le := by omega, f0 := (fun _ => I.f0 (by omega)), f9 := (fun _ => rfl), e0 := I.e0, e3 := I.e3, e4 := I.e4, e5 := I.e5, e1 := (fun _ h => by cases h), e7 := (fun _ h => by omega) }
      case _ =>
        simp at ho
        subst ho
        have h8 := he ⟨8, .data⟩ (by simp) rfl
        rw [if_pos (by rfl)]
        refine of_all fun K2 hK2 => ?_
        go_simp
        refine hK2 _ _ ⟨s22, s14, s15, s16, s17, s18, s19, s20, s21, s22, cur, st, rfl, ?_⟩
        have I := HI.out
        have h3 : st = 3 := by
          have a1 := I.l8
          rw [h8] at a1
          have := (of_decide_eq_true a1.symm)
          have := I.le
          omega
        exact { bel := I.bel, own := I.own, l2 := I.l2, l6 := I.l6, l8 := I.l8, l9 := (fun h => by cases h), l9' := (fun _ => rfl), c0 := I.c0, c1 := I.c1, c2 := I.c2, c3 := I.c3, le := I.le, f0 := I.f0, f9 := (fun _ => h3), e0 := I.e0, e3 := I.e3, e4 := I.e4, e5 := I.e5, e1 := I.e1, e7 := I.e7 }
      · omega
  · have he := bne_iff_ne.2 h0
    unfold Ru.v Ru.cells
    go_enter Tryd.func13, Tryd.ntmps13
    go_wp2_with (go_at_call 35; refine (check_any _ r A c (Reads.more (Reads.alloc HR.out (Nat.le_refl _) _) (by simp))).mono ?_; rintro e w1 ⟨rfl, hb1⟩; rw [← HE.out]; have HB1 := Lib.hid hb1; clear hb1)
    go_ret2
    exact ⟨⟨_, rfl, fun h => absurd h h0, fun _ => rfl⟩, below_then ((Below.refl _ w).alloc (Nat.le_refl _) _) HB1.out (by simp)⟩
end Go.Proofs.YtkfjnllbjlndlaaDoor
