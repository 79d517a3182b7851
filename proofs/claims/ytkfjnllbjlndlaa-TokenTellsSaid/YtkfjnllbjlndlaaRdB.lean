/- The lexer's read, its closure: the tokens one by one. -/
import Derived.Test.YtkfjnllbjlndlaaRdA
import Derived.Test.YtkfjnllbjlndlaaRf
import Derived.Test.YtkfjnllbjlndlaaHeld
import Derived.Test.YtkfjnllbjlndlaaOnG
import Derived.Test.YtkfjnllbjlndlaaRcI
import Derived.Shelf.Abstract
import Derived.Shelf.RegionOpen
import Derived.WalkKit
import Derived.OwnWalkIn
import Derived.TacticsInMore
import Derived.LoopNIn
import Derived.LoopIn
import Derived.Deep.QuietTactic
import Derived.BigQuiet
namespace Go.Proofs.Ytkfjnllbjlndlaa
open Go.RowKit Go.Shelf

attribute [local go_sem] Oper.semAt_some

def readR (p : List UInt8) : List (Tok × Nat) := if 1024 < p.length then [] else readM p p.length 0
def encP (x : Tok × Nat) : Array Value := #[x.1.v, .int .i64 x.2]
set_option maxRecDepth 100000 in
set_option maxHeartbeats 1000000 in
theorem read1_long (n lo bp : Nat) (A : Option Addr) (c : Nat) (p : List UInt8) (w : World) (hb : Bk w bp 29 #[.slice A p.length c]) (hl : 1024 < p.length) :
    Seq1 Fence.wide n Try.prog 41 #[.pointer (some ⟨bp, 0, none⟩)] encP lo (fun xs => xs = readR p) (fun pre => pre <+: readR p) 1025 w := by
  intro l J Jx W hW hJ hJx hY h0
  have hbW := hb.below hW hb.lt
  have hc1 := hbW.cells
  have hc2 := fun o => (hbW.alloc o).cells
  have hli : (1024 : Int) < (p.length : Int) := by omega
  have HR := Lib.hid (show readR p = [] by rw [readR, if_pos hl])
  refine callsIn_of_wp Try.func41 rfl trivial ?_ rfl
  simp only [Try.ntmps41, List.size_toArray, List.length_cons, List.length_nil, Nat.reduceAdd, Nat.reduceSub, Array.replicate_succ, Array.replicate_zero, List.push_toArray, List.append_toArray, List.nil_append, List.cons_append]
  have hfw : ∀ f, Fence.wide.fn f := fun _ => trivial
  have hdw : Fence.wide.depth.isSome = false := rfl
  gi_wp2
  refine (wpIn_wide (n := n)).2 (wp_scope_jumps 0 (fun _ _ => False) (fun _ _ => 0) rfl ((wpIn_wide (n := n)).1 ?_) (fun _ _ h => h.elim))
  gi_wp2
  refine wpIn_label ?_
  gi_wp2
  rw [jump_ret]
  refine bodyPost_ret (results_none rfl _ _ _) rfl ?_
  exact ⟨⟨_, rfl⟩, .inl ⟨[], HR.out.symm, hJ _ _ _ _ h0 (grown_alloc W _) (fun r e => by cases e)⟩⟩

set_option maxRecDepth 100000 in
set_option maxHeartbeats 2000000 in
theorem read1_short (n lo bp : Nat) (A : Option Addr) (c : Nat) (p : List UInt8) (w : World) (hb : Bk w bp 29 #[.slice A p.length c]) (hr : RdB w w.heap.size A p) (hl : ¬ 1024 < p.length) (hlo : lo ≤ bp) (hlA : ∀ ad, A = some ad → lo ≤ ad.block) :
    Seq1 Fence.wide n Try.prog 41 #[.pointer (some ⟨bp, 0, none⟩)] encP lo (fun xs => xs = readR p) (fun pre => pre <+: readR p) 1025 w := by
  intro l J Jx W hW hJ hJx hY h0
  have hbW := hb.below hW hb.lt
  have hbl := hbW.lt
  have hc1 := hbW.cells
  have hli : ¬ (1024 : Int) < (p.length : Int) := by omega
  have hs : p.length ≤ 1024 := by omega
  have HR := Lib.hid (show readR p = readM p p.length 0 by rw [readR, if_neg hl])
  have HL0 := Lib.hid (show Lx (W.alloc (.cells #[.slice A p.length c, .int .i64 0] 76)) W.heap.size W.heap.size A c p 0 from ⟨Bk.new W _ _, Reads.alloc (Reads.more (Reads.below hr hW) hW.size) (Nat.le_refl _) _, Nat.le_refl _, hs, by omega⟩)
  have HBW := Lib.hid hbW
  have HJ := Lib.hid hJ
  have HY := Lib.hid hY
  have H0 := Lib.hid h0
  clear hbW hr hW hb hJx hY h0 hJ
  refine callsIn_of_wp Try.func41 rfl trivial ?_ rfl
  simp only [Try.ntmps41, List.size_toArray, List.length_cons, List.length_nil, Nat.reduceAdd, Nat.reduceSub, Array.replicate_succ, Array.replicate_zero, List.push_toArray, List.append_toArray, List.nil_append, List.cons_append]
  have hfw : ∀ f, Fence.wide.fn f := fun _ => trivial
  have hdw : Fence.wide.depth.isSome = false := rfl
  gi_wp2
  refine (wpIn_wide (n := n)).2 (wp_scope_jumps 0 (fun a Wr => ∃ (pre : List (Tok × Nat)) (k : Nat) (u4 u5 u6 u7 u8 u9 u10 u11 u12 u13 u14 u15 u16 u17 u18 u19 u20 u21 u22 u23 u24 u25 u26 u27 u28 u29 u30 u31 u32 u33 u34 : Value), a = { tmps := #[.func (.yield l) #[] #[], .pointer (some ⟨bp, 0, none⟩), undef, .pointer (some ⟨W.heap.size, 0, none⟩), u4, u5, u6, u7, u8, u9, u10, u11, u12, u13, u14, u15, u16, u17, u18, u19, u20, u21, u22, u23, u24, u25, u26, u27, u28, u29, u30, u31, u32, u33, u34], defers := [] } ∧ readR p = pre ++ readM p p.length k ∧ pre.length ≤ k ∧ Lx Wr W.heap.size W.heap.size A c p k ∧ Bk Wr bp 29 #[.slice A p.length c] ∧ J pre Wr ∧ W.heap.size < Wr.heap.size) (fun _ Wr => p.length - posW W.heap.size Wr) rfl ((wpIn_wide (n := n)).1 ?_) ?_)
  · gi_wp2
    refine wpIn_label ?_
    obtain ⟨k, hk0⟩ : ∃ k, k = 0 := ⟨0, rfl⟩
    obtain ⟨pre, hp0⟩ : ∃ pre : List (Tok × Nat), pre = [] := ⟨[], rfl⟩
    have HL := Lib.hid (show Lx (W.alloc (.cells #[.slice A p.length c, .int .i64 0] 76)) W.heap.size W.heap.size A c p k by rw [hk0]; exact HL0.out)
    have HRR := Lib.hid (show readR p = pre ++ readM p p.length k by rw [hp0, hk0, HR.out]; rfl)
    have hpl : pre.length ≤ k := by rw [hp0]; simp
    have HBK := Lib.hid (HBW.out.alloc (.cells #[.slice A p.length c, .int .i64 0] 76))
    have HJJ := Lib.hid (bears_none HJ.out (hp0 ▸ H0.out : J pre W) (grown_alloc _ (.cells #[.slice A p.length c, .int .i64 0] 76)))
    have hk := HL.out.at_
    have hc1 := fun o => (HBW.out.alloc o).cells
    have hc2 := fun o m => ((HBW.out.alloc o).drewN m).cells
    have hmix : Try.prog.follows .mixedOrders = true := by kernel_rfl
    clear hk0 hp0
    dsimp only [Exit.then]
    rename_i hK
    refine hK _ _ ?_
    by_cases hlt : k < p.length
    · have HD := Lib.hid (show decide (k + 0 < p.length) = true by simpa using hlt)
      rcases ho : oneM p k with ⟨t, k1⟩ | ⟨a, er⟩
      · have f1 := (oneM_ok p k t k1 hlt ho).1
        have f2 := (oneM_ok p k t k1 hlt ho).2.1
        have HOK := Lib.hid ho
        clear ho
        gi_wp2_with (first | (gi_at_call 34; refine (callsIn_wide.2 (one_any _ W.heap.size W.heap.size A c p k (HL.out.drewN _) hlt)).mono ?_; rintro e w2 ⟨hres, ho⟩; rw [HOK.out] at hres; obtain ⟨rfl, hl2⟩ := hres; have HL2 := Lib.hid hl2; have HO2 := Lib.hid ho; have hx2 := fun o => (hl2.alloc o).x.cells; clear ho hl2; unfold Tok.v) | (gi_at_call 42; refine (callsIn_wide.2 (more_lit _ W.heap.size W.heap.size A c p k 0 true HL.out (by omega) HD.out)).mono ?_; rintro e w1 ⟨rfl, m, rfl⟩))
        have hJ3 := bears_none HJ.out (bears_none HJ.out (bears_only HJ.out (bears_none HJ.out HJJ.out (grown_drewN _ m)) HO2.out (Nat.le_refl _) (Nat.lt_succ_self _)) (grown_alloc _ (.cells t.cells 49))) (grown_drew _)
        have hsz2 : W.heap.size < (w2.alloc (.cells t.cells 49)).drew.heap.size := by
          have := HL2.out.x.lt
          show _ < (w2.alloc _).heap.size
          rw [World.size_alloc]; omega
        obtain ⟨fn, tmps, assign, body, hy, hRd⟩ := HY.out pre (t, k1) _ hJ3 hsz2 (by omega)
        have HRd := Lib.hid hRd
        simp only [encP, Tok.v, Tok.cells] at hy
        clear hJ3 hsz2 hRd
        gi_region_with_o (refine (HRd.out).mono ?_; rintro e W3 hd; obtain ⟨b, rfl, hd1, hd2⟩ := seq_dec hd; have HD1 := Lib.hid hd1; have HD2 := Lib.hid hd2; clear hd hd1 hd2)
        all_goals
          cases b with
          | true =>
            gi_wp2
            refine wpIn_goto ?_
            refine And.intro rfl ?_
            obtain ⟨hJ4, hH⟩ := HD1.out (by first | rfl | trivial)
            have hLd := (HL2.out.alloc (.cells t.cells 49)).drew
            have hL3 : Lx W3 W.heap.size W.heap.size A c p k1 := ⟨hH.bk hLd.x (by omega) (by omega), RdB.held hLd.r hH hlA (by omega) (Nat.le_of_lt hLd.x.lt), Nat.le_refl _, hs, f2⟩
            have hb3 : Bk W3 bp 29 #[.slice A p.length c] := hH.bk (((HBK.out.drewN m).grown HO2.out (by intro e; injection e with e; omega)).alloc _).drew hlo (by omega)
            have hs3 := hL3.x.lt
            exact ⟨pre ++ [(t, k1)], k1, _, _, _, _, _, _, _, _, _, _, _, _, _, _, _, _, _, _, _, _, _, _, _, _, _, _, _, _, _, _, _, rfl, by rw [HRR.out, readM_ok p k k1 t hlt HOK.out]; simp, by simp; omega, hL3, hb3, hJ4, hs3⟩
          | false =>
            gi_wp2
            refine end_normal (bodyPost_ret (results_none rfl _ _ _) (by rfl) ?_)
            exact ⟨⟨_, rfl⟩, .inr ⟨pre ++ [(t, k1)], ⟨readM p p.length k1, by rw [HRR.out, readM_ok p k k1 t hlt HOK.out]; simp⟩, HD2.out (by first | rfl | trivial)⟩⟩
      · have hE := Lib.hid (oneM_bad p k a er hlt ho)
        have hb1 : (er == 0) = false := beq_eq_false_iff_ne.2 hE.out
        have HOK := Lib.hid ho
        clear ho
        gi_wp2_with (first | (gi_at_call 34; refine (callsIn_wide.2 (one_any _ W.heap.size W.heap.size A c p k (HL.out.drewN _) hlt)).mono ?_; rintro e w2 ⟨hres, ho⟩; rw [HOK.out] at hres; obtain ⟨t, k', rfl, hl2, _⟩ := hres; have HL2 := Lib.hid hl2; have HO2 := Lib.hid ho; have hx2 := fun o => (hl2.alloc o).x.cells; clear ho hl2; unfold Tok.v) | (gi_at_call 42; refine (callsIn_wide.2 (more_lit _ W.heap.size W.heap.size A c p k 0 true HL.out (by omega) HD.out)).mono ?_; rintro e w1 ⟨rfl, m, rfl⟩))
        refine (wpIn_wide (n := n)).2 ?_
        go_quiet (fail)
        gi_wp2
        refine end_normal (bodyPost_ret (results_none rfl _ _ _) (by rfl) ?_)
        exact ⟨⟨_, rfl⟩, .inl ⟨pre, by rw [HRR.out, readM_bad p k a er hlt HOK.out]; simp, bears_none HJ.out (bears_none HJ.out (bears_only HJ.out (bears_none HJ.out HJJ.out (grown_drewN _ m)) HO2.out (Nat.le_refl _) (Nat.lt_succ_self _)) (grown_alloc _ _)) (grown_drewN _ _)⟩⟩
    · have HD := Lib.hid (show decide (k + 0 < p.length) = false by simpa using hlt)
      gi_wp2_with (gi_at_call 42; refine (callsIn_wide.2 (more_lit _ W.heap.size W.heap.size A c p k 0 false HL.out (by omega) HD.out)).mono ?_; rintro e w1 ⟨rfl, m, rfl⟩)
      refine bodyPost_ret (results_none rfl _ _ _) rfl ?_
      exact ⟨⟨_, rfl⟩, .inl ⟨pre, by rw [HRR.out, readM_end p _ k (by omega)]; simp, HJ.out _ _ _ _ HJJ.out (grown_drewN _ _) (fun r e => by cases e)⟩⟩
  · rintro a Wr ⟨pre, k, u4, u5, u6, u7, u8, u9, u10, u11, u12, u13, u14, u15, u16, u17, u18, u19, u20, u21, u22, u23, u24, u25, u26, u27, u28, u29, u30, u31, u32, u33, u34, rfl, hRR, hpl, hL, hbk, hj, hsz⟩
    have HRR := Lib.hid hRR
    have HL := Lib.hid hL
    have HBK := Lib.hid hbk
    have HJJ := Lib.hid hj
    have hk := hL.at_
    have hc1 := hbk.cells
    have hc2 := fun m => (hbk.drewN m).cells
    have hmix : Try.prog.follows .mixedOrders = true := by kernel_rfl
    clear hRR hL hbk hj
    refine (wpIn_wide (n := n)).1 ?_
    by_cases hlt : k < p.length
    · have HD := Lib.hid (show decide (k + 0 < p.length) = true by simpa using hlt)
      rcases ho : oneM p k with ⟨t, k1⟩ | ⟨a, er⟩
      · have f1 := (oneM_ok p k t k1 hlt ho).1
        have f2 := (oneM_ok p k t k1 hlt ho).2.1
        have HOK := Lib.hid ho
        clear ho
        gi_wp2_with (first | (gi_at_call 34; refine (callsIn_wide.2 (one_any _ W.heap.size W.heap.size A c p k (HL.out.drewN _) hlt)).mono ?_; rintro e w2 ⟨hres, ho⟩; rw [HOK.out] at hres; obtain ⟨rfl, hl2⟩ := hres; have HL2 := Lib.hid hl2; have HO2 := Lib.hid ho; have hx2 := fun o => (hl2.alloc o).x.cells; clear ho hl2; unfold Tok.v) | (gi_at_call 42; refine (callsIn_wide.2 (more_lit _ W.heap.size W.heap.size A c p k 0 true HL.out (by omega) HD.out)).mono ?_; rintro e w1 ⟨rfl, m, rfl⟩))
        have hJ3 := bears_none HJ.out (bears_none HJ.out (bears_only HJ.out (bears_none HJ.out HJJ.out (grown_drewN _ m)) HO2.out (Nat.le_refl _) (Nat.lt_succ_self _)) (grown_alloc _ (.cells t.cells 49))) (grown_drew _)
        have hsz2 : W.heap.size < (w2.alloc (.cells t.cells 49)).drew.heap.size := by
          have := HL2.out.x.lt
          show _ < (w2.alloc _).heap.size
          rw [World.size_alloc]; omega
        obtain ⟨fn, tmps, assign, body, hy, hRd⟩ := HY.out pre (t, k1) _ hJ3 hsz2 (by omega)
        have HRd := Lib.hid hRd
        simp only [encP, Tok.v, Tok.cells] at hy
        clear hJ3 hsz2 hRd
        gi_region_with_o (refine (HRd.out).mono ?_; rintro e W3 hd; obtain ⟨b, rfl, hd1, hd2⟩ := seq_dec hd; have HD1 := Lib.hid hd1; have HD2 := Lib.hid hd2; clear hd hd1 hd2)
        all_goals
          cases b with
          | true =>
            gi_wp2
            refine wpIn_goto ?_
            refine And.intro rfl ?_
            obtain ⟨hJ4, hH⟩ := HD1.out (by first | rfl | trivial)
            have hLd := (HL2.out.alloc (.cells t.cells 49)).drew
            have hL3 : Lx W3 W.heap.size W.heap.size A c p k1 := ⟨hH.bk hLd.x (by omega) (by omega), RdB.held hLd.r hH hlA (by omega) (Nat.le_of_lt hLd.x.lt), Nat.le_refl _, hs, f2⟩
            have hb3 : Bk W3 bp 29 #[.slice A p.length c] := hH.bk (((HBK.out.drewN m).grown HO2.out (by intro e; injection e with e; omega)).alloc _).drew hlo (by omega)
            have hs3 := hL3.x.lt
            exact ⟨⟨pre ++ [(t, k1)], k1, _, _, _, _, _, _, _, _, _, _, _, _, _, _, _, _, _, _, _, _, _, _, _, _, _, _, _, _, _, _, _, rfl, by rw [HRR.out, readM_ok p k k1 t hlt HOK.out]; simp, by simp; omega, hL3, hb3, hJ4, hs3⟩, by rw [hL3.pos, HL.out.pos]; omega⟩
          | false =>
            gi_wp2
            refine end_normal (bodyPost_ret (results_none rfl _ _ _) (by rfl) ?_)
            exact ⟨⟨_, rfl⟩, .inr ⟨pre ++ [(t, k1)], ⟨readM p p.length k1, by rw [HRR.out, readM_ok p k k1 t hlt HOK.out]; simp⟩, HD2.out (by first | rfl | trivial)⟩⟩
      · have hE := Lib.hid (oneM_bad p k a er hlt ho)
        have hb1 : (er == 0) = false := beq_eq_false_iff_ne.2 hE.out
        have HOK := Lib.hid ho
        clear ho
        gi_wp2_with (first | (gi_at_call 34; refine (callsIn_wide.2 (one_any _ W.heap.size W.heap.size A c p k (HL.out.drewN _) hlt)).mono ?_; rintro e w2 ⟨hres, ho⟩; rw [HOK.out] at hres; obtain ⟨t, k', rfl, hl2, _⟩ := hres; have HL2 := Lib.hid hl2; have HO2 := Lib.hid ho; have hx2 := fun o => (hl2.alloc o).x.cells; clear ho hl2; unfold Tok.v) | (gi_at_call 42; refine (callsIn_wide.2 (more_lit _ W.heap.size W.heap.size A c p k 0 true HL.out (by omega) HD.out)).mono ?_; rintro e w1 ⟨rfl, m, rfl⟩))
        refine (wpIn_wide (n := n)).2 ?_
        go_quiet (fail)
        gi_wp2
        refine end_normal (bodyPost_ret (results_none rfl _ _ _) (by rfl) ?_)
        exact ⟨⟨_, rfl⟩, .inl ⟨pre, by rw [HRR.out, readM_bad p k a er hlt HOK.out]; simp, bears_none HJ.out (bears_none HJ.out (bears_only HJ.out (bears_none HJ.out HJJ.out (grown_drewN _ m)) HO2.out (Nat.le_refl _) (Nat.lt_succ_self _)) (grown_alloc _ _)) (grown_drewN _ _)⟩⟩
    · have HD := Lib.hid (show decide (k + 0 < p.length) = false by simpa using hlt)
      gi_wp2_with (gi_at_call 42; refine (callsIn_wide.2 (more_lit _ W.heap.size W.heap.size A c p k 0 false HL.out (by omega) HD.out)).mono ?_; rintro e w1 ⟨rfl, m, rfl⟩)
      refine bodyPost_ret (results_none rfl _ _ _) rfl ?_
      exact ⟨⟨_, rfl⟩, .inl ⟨pre, by rw [HRR.out, readM_end p _ k (by omega)]; simp, HJ.out _ _ _ _ HJJ.out (grown_drewN _ _) (fun r e => by cases e)⟩⟩
end Go.Proofs.Ytkfjnllbjlndlaa
