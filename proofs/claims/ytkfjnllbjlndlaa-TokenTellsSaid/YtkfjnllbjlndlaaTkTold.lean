/- token.Tokens, its closure: the tokens one by one; riddlelaw04.told: at most so many of them. -/
import Derived.Test.YtkfjnllbjlndlaaRdC
import Derived.Test.YtkfjnllbjlndlaaRk
import Derived.RangeFuncBox
namespace Go.Proofs.Ytkfjnllbjlndlaa
open Go.RowKit Go.Shelf

attribute [local go_sem] Oper.semAt_some

def tokL (p : List UInt8) : List Tok := (readR p).map (·.1)
theorem roundIn_wide {m m' l l' : Nat} {P : Program} {f : FuncId} {tmps : Array Value} {assign body : Code} {w : World} {R : Ending → World → Prop}
    (h : RoundIn Fence.wide m P l f tmps assign body w R) : RoundIn (Fence.wide.inRound l') m' P l f tmps assign body w R := ⟨h.1, fun c cs _ => h.2 c cs (room_wide _)⟩

set_option maxRecDepth 100000 in
set_option maxHeartbeats 2000000 in
theorem tokens1 (n lo bp : Nat) (hn : 1 ≤ n) (A : Option Addr) (c : Nat) (p : List UInt8) (w : World) (hb : Bk w bp 29 #[.slice A p.length c]) (hr : RdB w w.heap.size A p) (hlen : p.length ≤ 140737488351232) (hlo : lo ≤ w.heap.size) :
    SeqK Fence.wide n Try.prog 36 #[.pointer (some ⟨bp, 0, none⟩)] (fun t : Tok => #[t.v]) lo (fun xs => xs = tokL p) (fun pre => pre <+: tokL p) 1025 w := by
  intro l J Jx W hW hJ hJx hY h0
  have hbW := hb.below hW hb.lt
  have hbl := hbW.lt
  have hc1 := hbW.cells
  have hc2 := fun o => (hbW.alloc o).cells
  have hs0 := hW.size
  have HR := Lib.hid (show RdB (W.alloc (.cells #[.func (.yield l) #[] #[]] 79)) (W.alloc (.cells #[.func (.yield l) #[] #[]] 79)).heap.size A p from Reads.more (Reads.alloc (Reads.more (Reads.below hr hW) hW.size) (Nat.le_refl _) _) (by simp only [World.size_alloc]; omega))
  have HJ := Lib.hid hJ
  have HJx := Lib.hid hJx
  have HY := Lib.hid hY
  have H0 := Lib.hid h0
  clear hbW hr hW hb hJx hY h0 hJ
  refine callsIn_of_wp_marks Try.func36 rfl trivial ?_ rfl
  simp only [Try.ntmps36, List.size_toArray, List.length_cons, List.length_nil, Nat.reduceAdd, Nat.reduceSub, Array.replicate_succ, Array.replicate_zero, List.push_toArray, List.append_toArray, List.nil_append, List.cons_append]
  have hfw : ∀ f, Fence.wide.fn f := fun _ => trivial
  have hdw : Fence.wide.depth.isSome = false := rfl
  gi_wp2_with (gi_at_call 33; refine (callsIn_wide.2 (read_any _ A c p HR.out hlen)).mono ?_; rintro e w1 ⟨bp', A', c', rfl, hb1, hr1, hA1, hbp, hB1⟩; have HBP := Lib.hid hb1; have HR1 := Lib.hid hr1; have HA1 := Lib.hid hA1; have HB1 := Lib.hid hB1; clear hb1 hr1 hA1 hB1)
  have hs1 := HB1.out.size
  simp only [World.size_alloc] at hs1 hbp
  have hbx := (Bk.new W 79 #[.func (.yield l) #[] #[]]).kept HB1.out
  have HBX := Lib.hid hbx
  have hg1 : W.grownBy w1 none := ⟨HB1.out.os, HB1.out.tape, HB1.out.output, by omega, fun i hi _ => (HB1.out.block i (by rw [World.size_alloc]; omega)).trans (Below.heap_alloc W _ i hi)⟩
  have HG1 := Lib.hid hg1
  have hlo2 : ∀ ad, A' = some ad → W.heap.size ≤ ad.block := fun ad e => by have := HA1.out ad e; simp only [World.size_alloc] at this; omega
  have hseq : Seq1 Fence.wide (n - 1) Try.prog 41 #[.pointer (some ⟨bp', 0, none⟩)] encP W.heap.size (fun xs => xs = readR p) (fun pre => pre <+: readR p) 1025 w1 := by
    by_cases hl : 1024 < p.length
    · exact read1_long (n - 1) W.heap.size bp' A' c' p w1 HBP.out hl
    · exact read1_short (n - 1) W.heap.size bp' A' c' p w1 HBP.out HR1.out hl (by omega) hlo2
  have HSEQ := Lib.hid hseq
  clear hbx hg1 hlo2 hseq
  refine wpIn_range1 rfl hn (gf := 41) (lb := #[.pointer (some ⟨bp', 0, none⟩)]) rfl trivial (enters_of Try.func41 (by kernel_rfl) rfl)
    HSEQ.out (by omega) (Below.refl _ _) (fun _ => rfl)
    (fun pre X => J (w1.heap.size + 3) (pre.map (·.1)) X ∧ Bk X W.heap.size 79 #[.func (.yield l) #[] #[]])
    (fun c pre X => c = .ret ∧ Jx (w1.heap.size + 3) (pre.map (·.1)) X) ?hI ?hIx ⟨bears_none (HJ.out _) (H0.out _) HG1.out, HBX.out⟩
    (fun s X => ∃ Bx, w1.heap.size + 3 ≤ Bx ∧ Bk X Bx 49 s.1.1.cells ∧ s.2 = { tmps := #[.func (.yield l) #[] #[], .pointer (some ⟨bp, 0, none⟩), .pointer (some ⟨W.heap.size, 0, none⟩), .pointer (some ⟨Bx, 0, none⟩), .slice A p.length c, .func (.func 41) #[] #[.pointer (some ⟨bp', 0, none⟩)], s.1.1.v, .int .i64 s.1.2, undef, undef, undef, undef], defers := [] }) ?hAx ?assign ?body ?done ?stop
  case hI =>
    rintro pre X Y row ⟨hj, hb⟩ hg hrow
    exact ⟨HJ.out _ _ _ _ _ hj hg (fun r e => by have := hrow r e; omega), hb.grown hg (fun e => by have := hrow _ e.symm; omega)⟩
  case hIx =>
    rintro c pre X Y row ⟨hc, hj⟩ hg hrow
    exact ⟨hc, HJx.out _ _ _ _ _ hj hg (fun r e => by have := hrow r e; omega)⟩
  case hAx =>
    rintro s X Y row ⟨Bx, h1, h2, h3⟩ hg hrow
    exact ⟨Bx, h1, h2.grown hg (fun e => by have := hrow _ e.symm; omega), h3⟩
  case assign =>
    rintro l2 pre x X K ⟨hj, hb⟩ hsz hlen hK
    have HJ1 := Lib.hid hj
    have HB1 := Lib.hid hb
    clear hj hb
    dsimp only [encP, Tok.v]
    gi_wp2
    exact hK _ _ (Held.alloc X _) ⟨bears_none (HJ.out _) HJ1.out (grown_alloc _ _), HB1.out.alloc _⟩ ⟨X.heap.size, hsz, Bk.new X _ x.1.cells, rfl⟩
  case body =>
    rintro l2 pre x a₁ X ⟨Bx, hBx, hX, hfr⟩ ⟨hj, hb⟩ hsz hlen
    dsimp only at hX hfr
    subst hfr
    have hx1 := hX.cells
    simp only [Tok.cells] at hx1
    have hx2 := hb.cells
    have hlen2 : (pre.map (·.1)).length < 1025 := by rw [List.length_map]; omega
    obtain ⟨fn, tmps, assign, body, hy, hRd⟩ := HY.out (w1.heap.size + 3) (pre.map (·.1)) x.1 X hj (by omega) hsz hlen2
    have HRd := Lib.hid (roundIn_wide (m' := n - 1 - 1 - 1) (l' := l2) hRd)
    have HB := Lib.hid hb
    simp only [Tok.v] at hy
    clear hj hb hX hRd
    gi_wp2_with (refine (HRd.out).mono ?_; rintro e W3 hd; obtain ⟨b, rfl, hd1, hd2⟩ := seq_dec hd; have HD1 := Lib.hid hd1; have HD2 := Lib.hid hd2; clear hd hd1 hd2)
    · rename_i hb
      obtain ⟨h1, h2⟩ := HD2.out (by simpa using hb)
      exact ⟨h2, rfl, by rw [List.map_append]; exact h1⟩
    · rename_i hb
      obtain ⟨h1, h2⟩ := HD1.out (by simpa using hb)
      exact ⟨h2.narrow (by omega) (Nat.le_refl _), by rw [List.map_append]; exact h1, h2.bk HB.out (by omega) (by omega)⟩
  case done =>
    rintro xs X rfl ⟨hj, hb⟩ hD
    gi_wp2
    refine ⟨by simp, .inl ⟨_, _, rfl, run_takeDeferred hD, ?_⟩⟩
    refine ⟨_, results_none rfl _ _ _, ?_⟩
    exact ⟨⟨_, rfl⟩, .inl ⟨w1.heap.size + 3, _, by omega, rfl, HJ.out _ _ _ _ _ hj (grownBy_putObj' _ _ _) (fun r e => by cases e; omega)⟩⟩
  case stop =>
    rintro c pre X hpre ⟨rfl, hj⟩ hD
    gi_wp2
    refine ⟨by simp, .inl ⟨_, _, rfl, run_takeDeferred hD, ?_⟩⟩
    refine ⟨_, results_none rfl _ _ _, ?_⟩
    exact ⟨⟨_, rfl⟩, .inr ⟨w1.heap.size + 3, _, by omega, List.IsPrefix.map _ hpre, HJx.out _ _ _ _ _ hj (grownBy_putObj' _ _ _) (fun r e => by cases e; omega)⟩⟩


theorem tokL_length (p : List UInt8) : (tokL p).length ≤ 1024 := by
  unfold tokL readR
  rw [List.length_map]
  split
  · simp
  · have := readM_length p p.length 0 (by omega) (by omega)
    omega

theorem prefix_take {α : Type} {a b : List α} (h : a <+: b) {m : Nat} (hm : m ≤ a.length) : a.take m = b.take m := by
  obtain ⟨t, rfl⟩ := h
  rw [List.take_append_of_le_length hm]
theorem eql_func_nil {P : Program} (W : World) {t : TypeId} {x : _} {y : _} {z : _} (f : Fn) (a c : Array Value) (h : P.underlying t = some (.func x y z)) : (binOp .eql t (.func f a c) .nilFunc).run P W = .ok (.bool false) W := by
  have h : ∀ d : Nat, (Op.equalIn (d + 1) t (.func f a c) .nilFunc).run P W = .ok false W := fun d => by
    simp [Op.equalIn, run_underlying h]
  simp only [binOp]
  simp [Op.equal, Op.maxDepth, h 9999]

set_option maxRecDepth 100000 in
set_option maxHeartbeats 2000000 in
theorem told_any (w : World) (bp : Nat) (A : Option Addr) (c : Nat) (p : List UInt8) (m : Nat) (hb : Bk w bp 29 #[.slice A p.length c]) (hr : RdB w w.heap.size A p) (hlen : p.length ≤ 140737488351232) :
    Calls Try.prog 23 #[.func (.func 36) #[] #[.pointer (some ⟨bp, 0, none⟩)], .int .i64 m] w fun e w' => (∃ v, e = .returned v ∧ w'.ownsRow w.heap.size 49 11 v ((tokL p).take m).length (tcells ((tokL p).take m))) ∧ Below w.heap.size w w' := by
  have hL := tokL_length p
  have HBW := Lib.hid hb
  have HR := Lib.hid hr
  clear hr hb
  obtain ⟨i0, hi, hz0, hz1, hz2⟩ := info_parts infoTok
  refine (callsIn_wide (n := 5)).1 ?_
  refine callsIn_of_wp_marks Try.func23 rfl trivial ?_ rfl
  simp only [Try.ntmps23, List.size_toArray, List.length_cons, List.length_nil, Nat.reduceAdd, Nat.reduceSub, Array.replicate_succ, Array.replicate_zero, List.push_toArray, List.append_toArray, List.nil_append, List.cons_append]
  have hfw : ∀ f, Fence.wide.fn f := fun _ => trivial
  have hdw : Fence.wide.depth.isSome = false := rfl
  have hq := fun (W : World) (b : Array Value) => eql_func_nil (P := Try.prog) W (.func 36) #[] b Try.underlying56
  gi_wp2
  obtain ⟨w2, hw2⟩ : ∃ w2, w2 = (w.alloc (.cells #[.int .i64 m] 3)).alloc (.cells #[.slice none 0 0] 41) := ⟨_, rfl⟩
  have hs2 : w2.heap.size = w.heap.size + 2 := by rw [hw2]; simp
  have HM := Lib.hid (show Bk w2 w.heap.size 3 #[.int .i64 m] by rw [hw2]; exact (Bk.new w _ _).alloc _)
  have HV := Lib.hid (show Bk w2 (w.heap.size + 1) 41 #[.slice none 0 0] by rw [hw2]; exact Bk.at_new _ _ _ _ (by simp))
  have HB := Lib.hid (show Below w.heap.size w w2 by rw [hw2]; exact ((Below.refl _ w).alloc (Nat.le_refl _) _).alloc (by simp) _)
  have HBP := Lib.hid (show Bk w2 bp 29 #[.slice A p.length c] by rw [hw2]; exact (HBW.out.alloc _).alloc _)
  have HRR := Lib.hid (show RdB w2 w2.heap.size A p by rw [hw2]; exact Reads.more (Reads.alloc (Reads.alloc HR.out (Nat.le_refl _) _) (by simp) _) (by simp; omega))
  rw [← hw2]
  clear hw2 hq
  refine wpIn_rangeK rfl (by omega) (gf := 36) (lb := #[.pointer (some ⟨bp, 0, none⟩)]) rfl trivial (enters_of Try.func36 (by kernel_rfl) rfl)
    (tokens1 (5 - 1) (w.heap.size + 2) bp (by omega) A c p w2 HBP.out HRR.out hlen (by omega)) (by omega) (Below.refl _ _) (fun _ => rfl)
    (fun hi pre W => pre.length ≤ m ∧ (∃ v, Bk W (w.heap.size + 1) 41 #[v] ∧ W.ownsRow hi 49 11 v pre.length (tcells pre)) ∧ Bk W w.heap.size 3 #[.int .i64 m] ∧ Below w.heap.size w W)
    (fun hi c pre W => c = .exit 0 ∧ m ≤ pre.length ∧ (∃ v, Bk W (w.heap.size + 1) 41 #[v] ∧ W.ownsRow hi 49 11 v m (tcells (pre.take m))) ∧ Below w.heap.size w W) ?hI ?hIx (fun hi => ⟨Nat.zero_le _, ⟨_, HV.out, World.ownsRow_nil _ _ _ _⟩, HM.out, HB.out⟩)
    (fun hi s W => ∃ Bx, hi ≤ Bx ∧ Bk W Bx 49 s.1.cells ∧ s.2 = { tmps := #[.func (.func 36) #[] #[.pointer (some ⟨bp, 0, none⟩)], .int .i64 m, undef, .pointer (some ⟨w.heap.size, 0, none⟩), .slice none 0 0, .pointer (some ⟨w.heap.size + 1, 0, none⟩), .pointer (some ⟨Bx, 0, none⟩), .func (.func 36) #[] #[.pointer (some ⟨bp, 0, none⟩)], .bool false, .func (.func 36) #[] #[.pointer (some ⟨bp, 0, none⟩)], s.1.v, undef, undef, undef, undef, undef, undef, undef, undef, undef], defers := [] }) ?hAx ?assign ?body ?done ?stop
  case hI =>
    rintro hi pre X Y row ⟨hp, ⟨v, hv, ho⟩, he, hb⟩ hg hrow
    refine ⟨hp, ⟨v, hv.grown hg (fun e => by have := hrow _ e.symm; omega), ho.kept hg ?_⟩, he.grown hg (fun e => by have := hrow _ e.symm; omega), Below.grown hb hg hb.size (fun i e => by have := hrow i e; omega)⟩
    rcases hq : v.ownBlock with _ | q
    · exact .inl rfl
    · right
      intro e
      have h1 := own_base ho q hq
      have h2 := hrow q e.symm
      omega
  case hIx =>
    rintro hi c pre X Y row ⟨hc, hp, ⟨v, hv, ho⟩, hb⟩ hg hrow
    refine ⟨hc, hp, ⟨v, hv.grown hg (fun e => by have := hrow _ e.symm; omega), ho.kept hg ?_⟩, Below.grown hb hg hb.size (fun i e => by have := hrow i e; omega)⟩
    rcases hq : v.ownBlock with _ | q
    · exact .inl rfl
    · right
      intro e
      have h1 := own_base ho q hq
      have h2 := hrow q e.symm
      omega
  case hAx =>
    rintro hi s X Y row ⟨Bx, h1, h2, h3⟩ hg hrow
    exact ⟨Bx, h1, h2.grown hg (fun e => by have := hrow _ e.symm; omega), h3⟩
  case assign =>
    rintro hi l pre x W K ⟨hp, ⟨v, hv, ho⟩, he, hb⟩ hh hsz hlen hK
    dsimp only [Tok.v]
    gi_wp2
    exact hK _ _ (Held.alloc W _) ⟨hp, ⟨v, hv.alloc _, ho.alloc _⟩, he.alloc _, hb.alloc hb.size _⟩ ⟨W.heap.size, hsz, Bk.new W _ x.cells, rfl⟩
  case body =>
    rintro h l pre x a₁ W ⟨Bx, hBx, hX, hfr⟩ ⟨hp, ⟨v, hv, ho⟩, he, hb⟩ hh hsz hlen
    dsimp only at hX hfr
    subst hfr
    obtain ⟨A2, c2, rfl⟩ := own_slice ho
    have hv1 := hv.cells
    have hv2 := hv.frozens
    have he1 := he.cells
    have hx1 := hX.cells
    simp only [Tok.cells] at hx1
    have HV := Lib.hid hv
    have HE := Lib.hid he
    have HO := Lib.hid ho
    have HB := Lib.hid hb
    clear hv he ho hb hX
    by_cases hlt : m ≤ pre.length
    · have hli : (pre.length : Int) ≥ (m : Int) := by omega
      gi_wp2
      have hpe : pre.length = m := by omega
      refine ⟨Held.refl _ _ _, rfl, by simp; omega, ⟨_, HV.out, ?_⟩, HB.out⟩
      rw [List.take_append_of_le_length (by omega), List.take_of_length_le (by omega), ← hpe]
      exact HO.out
    · have hli : ¬ (pre.length : Int) ≥ (m : Int) := by omega
      gi_wp2_with (gi_at_builtin; refine wpListIn_append_own _ rfl _ _ 41 rfl h 49 i0 Tok.zero.v 11 88 Try.underlying41 hi hz0 hz1 hz2 rfl (by decide) _ pre.length (tcells pre) rfl (HO.out.alloc _) ⟨W.heap.size, 0, none⟩ 1 1 x.list rfl ?qc1 ?qc2 ?qc3 ?qc4 ?qc5 ?qc6 ?_)
      case qc1 => rfl
      case qc2 => intro j u hj; exact hj
      case qc3 => exact tlist_one _
      case qc4 => unfold maxLen; omega
      case qc5 => omega
      case qc6 => omega
      intro v' w2 hown' hgrow _
      obtain ⟨A3, c3, rfl⟩ := own_slice hown'
      have hv3 := (HV.out.alloc (.cells x.list.toArray 49)).grown hgrow (fun e => by have := own_base HO.out _ e.symm; omega)
      have he3 := (HE.out.alloc (.cells x.list.toArray 49)).grown hgrow (fun e => by have := own_base HO.out _ e.symm; omega)
      have k1 := hv3.cells
      have k2 := hv3.frozens
      have HV3 := Lib.hid hv3
      have HE3 := Lib.hid he3
      have HO3 := Lib.hid hown'
      have HG := Lib.hid hgrow
      clear hv3 he3 hown' hgrow hv1 hv2 hx1
      gi_wp2
      have e1 : (pre ++ [x]).length = pre.length + 1 := by simp
      refine ⟨((Held.alloc W _).trans (Held.grown HG.out (fun r e => .inr (own_base HO.out r e)))).trans (Held.setCell _ ⟨w.heap.size + 1, 0, none⟩ _ (.inl (by simp))), by omega, ⟨_, HV3.out.set 0 _, ?_⟩, HE3.out.far (by simp) _, ?_⟩
      · rw [e1, tcells_snoc]
        exact own_set HO3.out (p := ⟨w.heap.size + 1, 0, none⟩) (by simp; omega) _
      · exact (Below.grown (HB.out.alloc HB.out.size _) HG.out (by have := HB.out.size; simp; omega) (fun r e => by have := own_base HO.out r e; omega)).setCell (p := ⟨w.heap.size + 1, 0, none⟩) (by simp) _
  case done =>
    rintro hi xs W rfl ⟨hp, ⟨v, hv, ho⟩, he, hb⟩ hh hD
    have hv1 := hv.cells
    have HO := Lib.hid ho
    have HB := Lib.hid hb
    clear ho hb hv he
    gi_wp2
    refine ⟨by simp, .inl ⟨_, _, rfl, run_takeDeferred hD, ?_⟩⟩
    refine ⟨_, results_tmp rfl _ _ _, ?_⟩
    refine ⟨⟨_, rfl, ?_⟩, Below.grown HB.out (grownBy_putObj' _ _ _) HB.out.size (fun k e => by cases e; omega)⟩
    rw [List.take_of_length_le hp]
    exact own_mono (ownsRow_putObj HO.out _ hD rfl) (by omega)
  case stop =>
    rintro hi c pre W hpre ⟨rfl, hp, ⟨v, hv, ho⟩, hb⟩ hh hD
    have hv1 := hv.cells
    have HO := Lib.hid ho
    have HB := Lib.hid hb
    clear ho hb hv
    gi_wp2
    refine ⟨by simp, .inl ⟨_, _, rfl, run_takeDeferred hD, ?_⟩⟩
    refine ⟨_, results_tmp rfl _ _ _, ?_⟩
    refine ⟨⟨_, rfl, ?_⟩, Below.grown HB.out (grownBy_putObj' _ _ _) HB.out.size (fun k e => by cases e; omega)⟩
    rw [List.length_take, Nat.min_eq_left (Nat.le_trans hp hpre.length_le), ← prefix_take hpre hp]
    exact own_mono (ownsRow_putObj HO.out _ hD rfl) (by omega)
end Go.Proofs.Ytkfjnllbjlndlaa
