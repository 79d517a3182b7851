/- riddlelaw20.told: the lines that are told, at most so many. -/
import Derived.Test.YtkfjnllbjlndlaaLnB
namespace Go.Proofs.Ytkfjnllbjlndlaa
open Go.RowKit Go.Shelf

attribute [local go_sem] Oper.semAt_some

abbrev Ln := Nat × List UInt8
def lcell (x : Ln) : List Value := [.int .i64 x.1, .string ⟨x.2.toArray⟩]
def lcells (l : List Ln) : List Value := l.flatMap lcell
theorem lcells_snoc (l : List Ln) (x : Ln) : lcells (l ++ [x]) = lcells l ++ lcell x := by simp [lcells]
theorem lcell_one (x : Ln) : ∀ u ∈ lcell x, u.oneCell' = true := by
  intro u hu
  simp only [lcell, List.mem_cons, List.not_mem_nil, or_false] at hu
  rcases hu with rfl | rfl <;> rfl
theorem infoLn : (Try.prog.info? 34).map (fun i => (i.zero, i.size, i.bytes)) = some (some (.agg #[.int .i64 0, .string ⟨#[]⟩]), 2, 24) := by kernel_rfl

theorem RdB.grownHi {X Y : World} {B b : Nat} {A : Option Addr} {l : List UInt8} {row : Option Nat} (h : RdB X B A l) (hg : X.grownBy Y row) (hB : B ≤ X.heap.size) (hlo : ∀ ad, A = some ad → b ≤ ad.block) (hrow : ∀ r, row = some r → r < b) : RdB Y B A l := by
  refine ⟨h.1, fun hn => ?_⟩
  obtain ⟨ad, e, hb, hc⟩ := h.2 hn
  refine ⟨ad, e, hb, fun j u hu => ?_⟩
  have h1 := hg.block ad.block (by omega) (fun e2 => by have := hrow _ e2.symm; have := hlo ad e; omega)
  exact (World.cell?_of_block (by rw [block_of_add]; exact h1)).trans (hc j u hu)

theorem prefix_take {α : Type} {a b : List α} (h : a <+: b) {m : Nat} (hm : m ≤ a.length) : a.take m = b.take m := by
  obtain ⟨t, rfl⟩ := h
  rw [List.take_append_of_le_length hm]

set_option maxRecDepth 100000 in
set_option maxHeartbeats 2000000 in
theorem toldL_any (w : World) (bp : Nat) (A : Option Addr) (c : Nat) (p : List UInt8) (m : Nat) (hb : Bk w bp 29 #[.slice A p.length c]) (hr : RdB w w.heap.size A p) (hcap : p.length ≤ c) (hs : p.length ≤ 1048576) (hA : ∀ ad, A = some ad → ad.block < w.heap.size) :
    Calls Try.prog 15 #[.func (.func 31) #[] #[.pointer (some ⟨bp, 0, none⟩)], .int .i64 m] w fun e w' => (∃ v, e = .returned v ∧ w'.ownsRow w.heap.size 34 2 v ((numF 1 (linesM p)).take m).length (lcells ((numF 1 (linesM p)).take m))) ∧ Below w.heap.size w w' := by
  have hL := linesM_length p
  have HA := Lib.hid hA
  have HBW := Lib.hid hb
  have HR := Lib.hid hr
  clear hr hb hA
  obtain ⟨i0, hi, hz0, hz1, hz2⟩ := info_parts infoLn
  refine (callsIn_wide (n := 5)).1 ?_
  refine callsIn_of_wp_marks Try.func15 rfl trivial ?_ rfl
  simp only [Try.ntmps15, List.size_toArray, List.length_cons, List.length_nil, Nat.reduceAdd, Nat.reduceSub, Array.replicate_succ, Array.replicate_zero, List.push_toArray, List.append_toArray, List.nil_append, List.cons_append]
  have hfw : ∀ f, Fence.wide.fn f := fun _ => trivial
  have hdw : Fence.wide.depth.isSome = false := rfl
  gi_wp2
  obtain ⟨w2, hw2⟩ : ∃ w2, w2 = (w.alloc (.cells #[.int .i64 m] 3)).alloc (.cells #[.slice none 0 0] 30) := ⟨_, rfl⟩
  have hs2 : w2.heap.size = w.heap.size + 2 := by rw [hw2]; simp
  have HM := Lib.hid (show Bk w2 w.heap.size 3 #[.int .i64 m] by rw [hw2]; exact (Bk.new w _ _).alloc _)
  have HV := Lib.hid (show Bk w2 (w.heap.size + 1) 30 #[.slice none 0 0] by rw [hw2]; exact Bk.at_new _ _ _ _ (by simp))
  have HB := Lib.hid (show Below w.heap.size w w2 by rw [hw2]; exact ((Below.refl _ w).alloc (Nat.le_refl _) _).alloc (by simp) _)
  have HBP := Lib.hid (show Bk w2 bp 29 #[.slice A p.length c] by rw [hw2]; exact (HBW.out.alloc _).alloc _)
  have HRR := Lib.hid (show RdB w2 w2.heap.size A p by rw [hw2]; exact Reads.more (Reads.alloc (Reads.alloc HR.out (Nat.le_refl _) _) (by simp) _) (by simp; omega))
  rw [← hw2]
  clear hw2
  refine wpIn_rangeP rfl (by omega) (gf := 31) (lb := #[.pointer (some ⟨bp, 0, none⟩)]) rfl trivial (enters_of Try.func31 (by kernel_rfl) rfl)
    (lines1 (5 - 1) bp A c p w2 HBP.out HRR.out hcap (by omega) (fun i => i < w.heap.size) HA.out) (Below.refl _ _) (fun _ => rfl)
    (fun pre W => pre.length ≤ m ∧ (∃ v, Bk W (w.heap.size + 1) 30 #[v] ∧ W.ownsRow (w2.heap.size + 3) 34 2 v pre.length (lcells (pre.map (·.1)))) ∧ Bk W w.heap.size 3 #[.int .i64 m] ∧ Below w.heap.size w W)
    (fun c pre W => c = .exit 0 ∧ m ≤ pre.length ∧ (∃ v, Bk W (w.heap.size + 1) 30 #[v] ∧ W.ownsRow (w2.heap.size + 3) 34 2 v m (lcells ((pre.map (·.1)).take m))) ∧ Below w.heap.size w W) ?hI ?hIx ⟨Nat.zero_le _, ⟨_, HV.out, World.ownsRow_nil _ _ _ _⟩, HM.out, HB.out⟩
    (fun s W => ∃ A3 c3, s.1.2 = .slice A3 s.1.1.2.length c3 ∧ RdB W W.heap.size A3 s.1.1.2 ∧ (∀ ad, A3 = some ad → w2.heap.size + 3 ≤ ad.block) ∧ s.2 = { tmps := #[.func (.func 31) #[] #[.pointer (some ⟨bp, 0, none⟩)], .int .i64 m, undef, .pointer (some ⟨w.heap.size, 0, none⟩), .slice none 0 0, .pointer (some ⟨w.heap.size + 1, 0, none⟩), .int .i64 s.1.1.1, .slice A3 s.1.1.2.length c3, .func (.func 31) #[] #[.pointer (some ⟨bp, 0, none⟩)], .int .i64 s.1.1.1, .slice A3 s.1.1.2.length c3, undef, undef, undef, undef, undef, undef, undef, undef, undef, undef, undef, undef], defers := [] }) ?hAx ?assign ?body ?done ?stop
  case hI =>
    rintro pre X Y row ⟨hp, ⟨v, hv, ho⟩, he, hb⟩ hg hrow
    refine ⟨hp, ⟨v, hv.grown hg (fun e => by have := hrow _ e.symm; omega), ho.kept hg ?_⟩, he.grown hg (fun e => by have := hrow _ e.symm; omega), Below.grown hb hg hb.size (fun i e => by have := hrow i e; omega)⟩
    rcases hq : v.ownBlock with _ | q
    · exact .inl rfl
    · right
      intro e
      have h1 := own_base ho q hq
      have h2 := hrow q e.symm
      omega
  case hIx =>
    rintro c pre X Y row ⟨hc, hp, ⟨v, hv, ho⟩, hb⟩ hg hrow
    refine ⟨hc, hp, ⟨v, hv.grown hg (fun e => by have := hrow _ e.symm; omega), ho.kept hg ?_⟩, Below.grown hb hg hb.size (fun i e => by have := hrow i e; omega)⟩
    rcases hq : v.ownBlock with _ | q
    · exact .inl rfl
    · right
      intro e
      have h1 := own_base ho q hq
      have h2 := hrow q e.symm
      omega
  case hAx =>
    rintro s X Y row ⟨A3, c3, h1, h2, h3, h4⟩ hg hrow
    exact ⟨A3, c3, h1, Reads.more (RdB.grownHi h2 hg (Nat.le_refl _) h3 (fun r e => (hrow r e).2)) hg.size, h3, h4⟩
  case assign =>
    rintro l pre ⟨⟨k, b⟩, v0⟩ W K ⟨hp, ⟨v, hv, ho⟩, he, hb⟩ ⟨A3, c3, h1, h2, h3⟩ hsz hlen hK
    dsimp only at h1 h2
    subst h1
    dsimp only [encL]
    gi_wp2
    exact hK _ _ (KeptOn.refl _ W) ⟨hp, ⟨v, hv, ho⟩, he, hb⟩ ⟨A3, c3, rfl, h2, h3, rfl⟩
  case body =>
    rintro l pre ⟨⟨k, b⟩, v0⟩ a₁ W ⟨A3, c3, h1, h2, h3, hfr⟩ ⟨hp, ⟨v, hv, ho⟩, he, hb⟩ hsz hlen
    dsimp only at h1 h2 hfr
    subst h1 hfr
    obtain ⟨A2, c2, rfl⟩ := own_slice ho
    have hv1 := hv.cells
    have hv2 := hv.frozens
    have he1 := he.cells
    have hcv := h2.string_ (P := Try.prog) 29 9 5 Try.underlying29 Try.underlying5 Try.underlying9 c3
    have HV := Lib.hid hv
    have HE := Lib.hid he
    have HO := Lib.hid ho
    have HB := Lib.hid hb
    clear hv he ho hb h2 h3
    by_cases hlt : m ≤ pre.length
    · have hli : (pre.length : Int) ≥ (m : Int) := by omega
      gi_wp2
      have hpe : pre.length = m := by omega
      refine ⟨KeptOn.refl _ _, rfl, by simp; omega, ⟨_, HV.out, ?_⟩, HB.out⟩
      rw [List.map_append, List.take_append_of_le_length (by rw [List.length_map]; omega), List.take_of_length_le (by rw [List.length_map]; omega), ← hpe]
      exact HO.out
    · have hli : ¬ (pre.length : Int) ≥ (m : Int) := by omega
      gi_wp2_with (gi_at_builtin; refine wpListIn_append_own _ rfl _ _ 30 rfl (w2.heap.size + 3) 34 i0 (.agg #[.int .i64 0, .string ⟨#[]⟩]) 2 24 Try.underlying30 hi hz0 hz1 hz2 rfl (by decide) _ pre.length (lcells (pre.map (·.1))) rfl (HO.out.alloc _) ⟨W.heap.size, 0, none⟩ 1 1 (lcell (k, b)) rfl ?qc1 ?qc2 ?qc3 ?qc4 ?qc5 ?qc6 ?_)
      case qc1 => rfl
      case qc2 => intro j u hj; exact hj
      case qc3 => exact lcell_one _
      case qc4 => unfold maxLen; omega
      case qc5 => omega
      case qc6 => omega
      intro v' w3 hown' hgrow _
      obtain ⟨A3, c3, rfl⟩ := own_slice hown'
      have hv3 := (HV.out.alloc (.cells #[.int .i64 k, .string ⟨b.toArray⟩] 34)).grown hgrow (fun e => by have := own_base HO.out _ e.symm; omega)
      have he3 := (HE.out.alloc (.cells #[.int .i64 k, .string ⟨b.toArray⟩] 34)).grown hgrow (fun e => by have := own_base HO.out _ e.symm; omega)
      have k1 := hv3.cells
      have k2 := hv3.frozens
      have HV3 := Lib.hid hv3
      have HE3 := Lib.hid he3
      have HO3 := Lib.hid hown'
      have HG := Lib.hid hgrow
      clear hv3 he3 hown' hgrow hv1 hv2 hcv
      gi_wp2
      refine ⟨((KeptOn.alloc W _).trans (KeptOn.grown HG.out (fun r e hk => by have := own_base HO.out r e; omega))).trans (KeptOn.setCell _ ⟨w.heap.size + 1, 0, none⟩ _ (by simp; omega)), by rw [List.length_append, List.length_cons, List.length_nil]; omega, ⟨_, HV3.out.set 0 _, ?_⟩, HE3.out.far (by simp) _, ?_⟩
      · rw [List.length_append, List.length_cons, List.length_nil, List.map_append, List.map_cons, List.map_nil, lcells_snoc]
        rw [hs2]
        exact own_set HO3.out (p := ⟨w.heap.size + 1, 0, none⟩) (by simp) _
      · exact (Below.grown (HB.out.alloc HB.out.size _) HG.out (by have := HB.out.size; simp; omega) (fun r e => by have := own_base HO.out r e; omega)).setCell (p := ⟨w.heap.size + 1, 0, none⟩) (by simp) _
  case done =>
    rintro xs W hxs ⟨hp, ⟨v, hv, ho⟩, he, hb⟩ hD
    have hv1 := hv.cells
    have HO := Lib.hid ho
    have HB := Lib.hid hb
    clear ho hb hv he
    gi_wp2
    refine ⟨by simp, .inl ⟨_, _, rfl, run_takeDeferred hD, ?_⟩⟩
    refine ⟨_, results_tmp rfl _ _ _, ?_⟩
    refine ⟨⟨_, rfl, ?_⟩, Below.grown HB.out (grownBy_putObj' _ _ _) HB.out.size (fun k e => by cases e; omega)⟩
    rw [← hxs, List.take_of_length_le (by rw [List.length_map]; exact hp), List.length_map]
    exact own_mono (ownsRow_putObj HO.out _ hD rfl) (by omega)
  case stop =>
    rintro c pre W hpre ⟨rfl, hp, ⟨v, hv, ho⟩, hb⟩ hD
    have hv1 := hv.cells
    have HO := Lib.hid ho
    have HB := Lib.hid hb
    clear ho hb hv
    gi_wp2
    refine ⟨by simp, .inl ⟨_, _, rfl, run_takeDeferred hD, ?_⟩⟩
    refine ⟨_, results_tmp rfl _ _ _, ?_⟩
    refine ⟨⟨_, rfl, ?_⟩, Below.grown HB.out (grownBy_putObj' _ _ _) HB.out.size (fun k e => by cases e; omega)⟩
    have hl1 := hpre.length_le
    rw [List.length_map] at hl1
    rw [List.length_take, Nat.min_eq_left (Nat.le_trans hp hl1), ← prefix_take hpre (by rw [List.length_map]; exact hp)]
    exact own_mono (ownsRow_putObj HO.out _ hD rfl) (by omega)
end Go.Proofs.Ytkfjnllbjlndlaa
