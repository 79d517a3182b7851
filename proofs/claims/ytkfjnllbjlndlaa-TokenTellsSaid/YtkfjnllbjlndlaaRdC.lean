/- token.Lex. -/
import Derived.Test.YtkfjnllbjlndlaaRdB
import Derived.RangeFuncBox
namespace Go.Proofs.Ytkfjnllbjlndlaa
open Go.RowKit Go.Shelf

attribute [local go_sem] Oper.semAt_some

set_option maxRecDepth 100000 in
set_option maxHeartbeats 2000000 in
theorem lex_any (w : World) (A : Option Addr) (c : Nat) (p : List UInt8) (hr : RdB w w.heap.size A p) :
    Calls Try.prog 17 #[.slice A p.length c] w fun e w' => LexC w w' p e := by
  by_cases hl : 1024 < p.length
  · have HL := Lib.hid (show lexR p = ([], 0, 3) by rw [lexR, if_pos hl])
    have hli : (1024 : Int) < (p.length : Int) := by omega
    go_enter Try.func17, Try.ntmps17
    go_wp2
    go_ret3
    unfold LexC
    rw [HL.out]
    exact ⟨⟨_, rfl, World.ownsRow_nil _ _ _ _⟩, Below.refl _ _⟩
  · have hli : ¬ (1024 : Int) < (p.length : Int) := by omega
    have hs : p.length ≤ 1024 := by omega
    have HRW := Lib.hid hr
    clear hr
    obtain ⟨i0, hi, hz0, hz1, hz2⟩ := info_parts infoTok
    refine (callsIn_wide (n := 3)).1 ?_
    refine callsIn_of_wp_marks Try.func17 rfl trivial ?_ rfl
    simp only [Try.ntmps17, List.size_toArray, List.length_cons, List.length_nil, Nat.reduceAdd, Nat.reduceSub, Array.replicate_succ, Array.replicate_zero, List.push_toArray, List.append_toArray, List.nil_append, List.cons_append]
    have hfw : ∀ f, Fence.wide.fn f := fun _ => trivial
    have hdw : Fence.wide.depth.isSome = false := rfl
    have hrr : RdB ((w.alloc (.cells #[.slice none 0 0] 41)).alloc (.cells #[.int .i64 0] 3)) ((w.alloc (.cells #[.slice none 0 0] 41)).alloc (.cells #[.int .i64 0] 3)).heap.size A p := Reads.more (Reads.alloc (Reads.alloc HRW.out (Nat.le_refl _) _) (by rw [World.size_alloc]; omega) _) (by simp only [World.size_alloc]; omega)
    have HRR := Lib.hid hrr
    clear hrr
    gi_wp2_with (gi_at_call 33; refine (callsIn_wide.2 (read_any _ A c p HRR.out (by omega))).mono ?_; rintro e w1 ⟨bp, A', c', rfl, hb1, hr1, hA1, hbp, hB1⟩; have HBP := Lib.hid hb1; have HR1 := Lib.hid hr1; have HA1 := Lib.hid hA1; have HB1 := Lib.hid hB1; clear hb1 hr1 hA1 hB1)
    have h5 := (((Bk.new w 41 #[.slice none 0 0]).alloc (.cells #[.int .i64 0] 3)).kept HB1.out)
    have h6 := ((Bk.at_new (w.alloc (.cells #[.slice none 0 0] 41)) 3 #[.int .i64 0] (w.heap.size + 1) (by simp)).kept HB1.out)
    have hs1 := HB1.out.size
    simp only [World.size_alloc] at hs1 hbp
    have hB0 : Below w.heap.size w w1 := below_then (((Below.refl _ w).alloc (Nat.le_refl _) _).alloc (by simp) _) HB1.out (by simp; omega)
    have H5 := Lib.hid h5
    have H6 := Lib.hid h6
    have HB0 := Lib.hid hB0
    clear h5 h6 hB0
    refine wpIn_range1 rfl (by omega) (gf := 41) (lb := #[.pointer (some ⟨bp, 0, none⟩)]) rfl trivial (enters_of Try.func41 (by kernel_rfl) rfl)
      (read1_short (3 - 1) (w.heap.size + 2) bp A' c' p w1 HBP.out HR1.out hl hbp (fun ad e => by have := HA1.out ad e; simp only [World.size_alloc] at this; omega)) (by omega) (Below.refl _ _) (fun _ => rfl)
      (fun pre W => (∃ v, Bk W w.heap.size 41 #[v] ∧ W.ownsRow (w1.heap.size + 3) 49 11 v pre.length (tcells (pre.map (·.1)))) ∧ Bk W (w.heap.size + 1) 3 #[.int .i64 (lastP 0 pre)] ∧ Below w.heap.size w W)
      (fun _ _ _ => False) ?hI (fun _ _ _ _ _ hs _ _ => hs) ⟨⟨_, H5.out, World.ownsRow_nil _ _ _ _⟩, H6.out, HB0.out⟩
      (fun s W => ∃ Bx, w1.heap.size + 3 ≤ Bx ∧ Bk W Bx 49 s.1.1.cells ∧ s.2 = { tmps := #[.slice A p.length c, undef, .slice none 0 0, .int .i64 0, .int .i64 0, .pointer (some ⟨w.heap.size, 0, none⟩), .pointer (some ⟨w.heap.size + 1, 0, none⟩), .pointer (some ⟨Bx, 0, none⟩), .int .i64 s.1.2, undef, undef, undef, undef, .slice A p.length c, .int .i64 p.length, .bool false, .slice A p.length c, .func (.func 41) #[] #[.pointer (some ⟨bp, 0, none⟩)], s.1.1.v, .int .i64 s.1.2, undef, undef, undef, undef, undef, undef, undef, undef, undef, undef, undef, undef, undef, undef, undef, undef, undef, undef, undef, undef, undef, undef, undef], defers := [] }) ?hAx ?assign ?body ?done (fun _ _ _ _ h _ => h.elim)
    case hI =>
      rintro pre X Y row ⟨⟨v, hv, ho⟩, he, hb⟩ hg hrow
      refine ⟨⟨v, hv.grown hg (fun e => by have := hrow _ e.symm; omega), ho.kept hg ?_⟩, he.grown hg (fun e => by have := hrow _ e.symm; omega), Below.grown hb hg hb.size (fun i e => by have := hrow i e; omega)⟩
      rcases hq : v.ownBlock with _ | q
      · exact .inl rfl
      · right
        intro e
        have h1 := own_base ho q hq
        have h2 := hrow q e.symm
        omega
    case hAx =>
      rintro s X Y row ⟨Bx, h1, h2, h3⟩ hg hrow
      exact ⟨Bx, h1, h2.grown hg (fun e => by have := hrow _ e.symm; omega), h3⟩
    case assign =>
      rintro l pre x W K ⟨⟨v, hv, ho⟩, he, hb⟩ hsz hlen hK
      dsimp only [encP, Tok.v]
      gi_wp2
      exact hK _ _ (Held.alloc W _) ⟨⟨v, hv.alloc _, ho.alloc _⟩, he.alloc _, hb.alloc hb.size _⟩ ⟨W.heap.size, hsz, Bk.new W _ x.1.cells, rfl⟩
    case body =>
      rintro l pre x a₁ W ⟨Bx, hBx, hX, hfr⟩ ⟨⟨v, hv, ho⟩, he, hb⟩ hsz hlen
      dsimp only at hX hfr
      subst hfr
      have hv1 := hv.cells
      have hv2 := hv.frozens
      have hx1 := hX.cells
      simp only [Tok.cells] at hx1
      have HV := Lib.hid hv
      have HE := Lib.hid he
      have HO := Lib.hid ho
      have HB := Lib.hid hb
      clear hv he ho hb hX
      gi_wp2_with (gi_at_builtin; refine wpListIn_append_own _ rfl _ _ 41 rfl (w1.heap.size + 3) 49 i0 Tok.zero.v 11 88 Try.underlying41 hi hz0 hz1 hz2 rfl (by decide) v pre.length (tcells (pre.map (·.1))) rfl (HO.out.alloc _) ⟨W.heap.size, 0, none⟩ 1 1 x.1.list rfl ?qc1 ?qc2 ?qc3 ?qc4 ?qc5 ?qc6 ?_)
      case qc1 => rfl
      case qc2 => intro j u hj; exact news_tok x.1 rfl _ j u hj
      case qc3 => exact tlist_one _
      case qc4 => unfold maxLen; omega
      case qc5 => omega
      case qc6 => simp; omega
      intro v' w2 hown' hgrow _
      obtain ⟨A3, c3, rfl⟩ := own_slice hown'
      have hv3 := (HV.out.alloc (.cells x.1.list.toArray 49)).grown hgrow (fun e => by have := own_base HO.out _ e.symm; omega)
      have he3 := (HE.out.alloc (.cells x.1.list.toArray 49)).grown hgrow (fun e => by have := own_base HO.out _ e.symm; omega)
      have k1 := hv3.cells
      have k2 := hv3.frozens
      have k3 := he3.cells
      have k4 := he3.frozens
      have HV3 := Lib.hid hv3
      have HE3 := Lib.hid he3
      have HO3 := Lib.hid hown'
      have HG := Lib.hid hgrow
      clear hv3 he3 hown' hgrow hv1 hv2 hx1
      gi_wp2
      have e1 : (pre ++ [x]).length = pre.length + 1 := by simp
      have e2 : tcells ((pre ++ [x]).map (·.1)) = tcells (pre.map (·.1)) ++ x.1.list := by simp [tcells]
      refine ⟨(((Held.alloc W _).trans (Held.grown HG.out (fun r e => .inr (own_base HO.out r e)))).trans (Held.setCell _ ⟨w.heap.size, 0, none⟩ _ (.inl (by simp)))).trans (Held.setCell _ ⟨w.heap.size + 1, 0, none⟩ _ (.inl (by simp))), ⟨_, (HV3.out.set 0 _).far (p := ⟨w.heap.size + 1, 0, none⟩) (by simp) _, ?_⟩, ?_, ?_⟩
      · rw [e1, e2]
        exact own_set (own_set HO3.out (p := ⟨w.heap.size, 0, none⟩) (by simp; omega) _) (p := ⟨w.heap.size + 1, 0, none⟩) (by simp; omega) _
      · rw [lastP_snoc]
        exact (HE3.out.far (p := ⟨w.heap.size, 0, none⟩) (by simp) _).set 0 _
      · refine ((Below.grown (HB.out.alloc HB.out.size _) HG.out (by have := HB.out.size; simp; omega) (fun r e => by have := own_base HO.out r e; omega)).setCell (p := ⟨w.heap.size, 0, none⟩) (Nat.le_refl _) _).setCell (p := ⟨w.heap.size + 1, 0, none⟩) (by simp) _
    case done =>
      rintro xs W rfl ⟨⟨v, hv, ho⟩, he, hb⟩ hD
      have hv1 := hv.cells
      have he1 := he.cells
      have HO := Lib.hid ho
      have HB := Lib.hid hb
      have hRR : readR p = readM p p.length 0 := by rw [readR, if_neg hl]
      obtain ⟨t1, t2, t3⟩ := toksM_read p p.length 0 (by omega) (by omega)
      rw [← hRR] at t1 t2 t3
      clear ho hb hv he
      rcases hT : (toksA p).2.2 with _ | ⟨a, er⟩
      · have hT' := hT
        unfold toksA at hT'
        rw [hT'] at t3
        simp only at t3
        rw [t3] at he1
        have HL := Lib.hid (show lexR p = ((readR p).map (·.1), (p.length : Int), 0) by rw [lexR, if_neg hl, hT]; unfold toksA; simp only; rw [t1, t2, t3])
        clear hT hT' t1 t2 t3 hRR
        gi_wp2
        refine (wpIn_wide (n := 3)).2 ?_
        go_quiet (fail)
        gi_wp2
        have hD' : (W.drewN nq).heap[w1.heap.size]? = some (.deferred (some [])) := hD
        refine ⟨by simp, .inl ⟨_, _, rfl, run_takeDeferred hD', ?_⟩⟩
        refine ⟨_, results_tmp3 rfl _ _ _, ?_⟩
        unfold LexC
        rw [HL.out]
        refine ⟨⟨v, rfl, ?_⟩, Below.grown (below_drewN' HB.out nq) (grownBy_putObj' _ _ _) HB.out.size (fun k e => by cases e; omega)⟩
        have ho2 : (W.drewN nq).ownsRow (w1.heap.size + 3) 49 11 v (readR p).length (tcells ((readR p).map (·.1))) := HO.out.kept (grown_drewN W nq) (by rcases v.ownBlock with _ | q; exact .inl rfl; exact .inr (by simp))
        rw [List.length_map]
        exact own_mono (ownsRow_putObj ho2 _ hD' rfl) (by omega)
      · have hT' := hT
        unfold toksA at hT'
        rw [hT'] at t3
        simp only at t3
        obtain ⟨t4, t5⟩ := t3
        have hne : ¬ (lastP 0 (readR p) : Int) = (p.length : Int) := by omega
        have hneb : ((lastP 0 (readR p) : Int) == (p.length : Int)) = false := beq_eq_false_iff_ne.2 hne
        have HL := Lib.hid (show lexR p = ([], a, er) by rw [lexR, if_neg hl, hT])
        have HO1 := Lib.hid t5
        clear hT hT' t1 t2 hRR t5
        have HLx := Lib.hid (show Lx (W.alloc (.cells #[.slice A p.length c, .int .i64 (lastP 0 (readR p))] 76)) W.heap.size W.heap.size A c p (lastP 0 (readR p)) from ⟨Bk.new W _ _, Reads.alloc (Reads.more (Reads.below HRW.out HB.out) HB.out.size) (Nat.le_refl _) _, Nat.le_refl _, hs, by omega⟩)
        have hDl := (Array.getElem?_eq_some_iff.1 hD).1
        gi_wp2_with (gi_at_call 34; refine (callsIn_wide.2 (one_any _ W.heap.size W.heap.size A c p (lastP 0 (readR p)) HLx.out t4)).mono ?_; rintro e w2 ⟨hres, ho⟩; rw [HO1.out] at hres; obtain ⟨t, k', rfl, hl2, _⟩ := hres; have HO2 := Lib.hid ho; clear ho hl2; unfold Tok.v)
        have hD2 : (w2.alloc (.cells t.cells 49)).heap[w1.heap.size]? = some (.deferred (some [])) := by
          have q1 : (W.alloc (.cells #[.slice A p.length c, .int .i64 (lastP 0 (readR p))] 76)).heap[w1.heap.size]? = some (.deferred (some [])) := (Below.heap_alloc _ _ _ hDl).trans hD
          have q2 := (HO2.out.block w1.heap.size (by rw [World.size_alloc]; omega) (by intro e; injection e with e; omega)).trans q1
          exact (Below.heap_alloc _ _ _ (Array.getElem?_eq_some_iff.1 q2).1).trans q2
        refine ⟨by simp, .inl ⟨_, _, rfl, run_takeDeferred hD2, ?_⟩⟩
        refine ⟨_, results_tmp3 rfl _ _ _, ?_⟩
        unfold LexC
        rw [HL.out]
        have hb2 : Below w.heap.size w w2 := Only.below (HB.out.alloc HB.out.size _) HO2.out HB.out.size (by have := HB.out.size; simp; omega)
        exact ⟨⟨_, rfl, World.ownsRow_nil _ _ _ _⟩, Below.grown (hb2.alloc hb2.size _) (grownBy_putObj' _ _ _) (by have := hb2.size; simp; omega) (fun k e => by cases e; omega)⟩
end Go.Proofs.Ytkfjnllbjlndlaa
