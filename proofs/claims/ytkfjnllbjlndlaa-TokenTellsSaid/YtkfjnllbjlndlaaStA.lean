/- The lexer's set. -/
import Derived.Test.YtkfjnllbjlndlaaStB
import Derived.Deep.CutRange
import Derived.Deep.RegionHeld3
import Derived.Deep.RegionWith
import Derived.Test.YtkfjnllbjlndlaaShut
namespace Go.Proofs.Ytkfjnllbjlndlaa
open Go.RowKit

def tcl (n : Bool) (cl : Cl) : Tok := { Tok.zero with kind := 2, cls := cl, not_ := n }
theorem tcl_cells (n : Bool) (cl : Cl) : (tcl n cl).cells = #[.int .i64 2, .int .u8 0, .int .u64 cl.a, .int .u64 cl.b, .int .u64 cl.c, .int .u64 cl.d, .bool n, .int .i64 0, .int .i64 0, .bool false, .int .i64 0] := rfl
theorem RdB.lit1 (w : World) (b : UInt8) (t : TypeId) : RdB (w.alloc (.cells #[.int .u8 b.toNat] t)) (w.alloc (.cells #[.int .u8 b.toNat] t)).heap.size (some ⟨w.heap.size, 0, none⟩) [b] := by
  have h := RdB.lit w [b] t (0, 0)
  rw [World.size_alloc]
  exact h
theorem zero_cells : Tok.zero.cells = #[.int .i64 0, .int .u8 0, .int .u64 0, .int .u64 0, .int .u64 0, .int .u64 0, .bool false, .int .i64 0, .int .i64 0, .bool false, .int .i64 0] := rfl

set_option maxRecDepth 100000 in
set_option maxHeartbeats 8000000 in
theorem set_any (w : World) (g B : Nat) (A : Option Addr) (c : Nat) (p : List UInt8) (k k1 : Nat) (hk1 : k1 = k + 1) (h : Lx w g B A c p k1) (n : Bool) (hn : n = decide (byteAt p k1 = 94)) :
    Calls Try.prog 44 #[.pointer (some ⟨g, 0, none⟩)] w fun e w' => SetRes w' g B A c p n (setM p k n (p.length + 1) (if n then k1 + 1 else k1) true Cl.zero) e ∧ Only g w w' := by
  have H := Lib.hid h
  have FF := Lib.hid (Fr.new h Tok.zero.cells)
  have hne := h.x.lt
  have hs := h.small
  have hk := h.at_
  have hcell := fun o => (h.alloc o).x.cells
  have hw : IntKind.i64.wrap ((k1 : Int) - 1) = (k : Int) := by rw [wrap_id _ (by omega) (by omega)]; omega
  obtain ⟨T, hT⟩ : ∃ T, T = setM p k n (p.length + 1) (if n then k1 + 1 else k1) true Cl.zero := ⟨_, rfl⟩
  have HT := Lib.hid hT
  have HNN := Lib.hid hn
  have HK := Lib.hid hk1
  rw [← hT]
  have hq := fun (a b c d : Int) (e : Cl) (W : World) => eql_class ⟨a, b, c, d⟩ e W
  simp only [Cl.v] at hq
  clear h hT hn hk1
  go_enter Try.func44, Try.ntmps44
  refine shut_post fun E0 HQ => ?_
  go_wp2_with (go_at_call 45; refine (comes_any _ g B A c p k1 94 FF.out.l (by decide)).mono ?_; rintro e w1 ⟨b1, k2, rfl, hl1, ho1, hy1⟩; have F1 := Lib.hid (Ft.new (FF.out.only ho1 hl1) (tcl b1 Cl.zero)); have HY1 := Lib.hid hy1; have hz1 := (FF.out.only ho1 hl1).z.lt; clear hl1 ho1 hy1)
  have hbn : b1 = n := by
    rw [HNN.out]
    cases b1 with
    | true => have := (HY1.out.1 rfl).1; simp [this]
    | false => have := (HY1.out.2 rfl).1; simp [this]
  subst hbn
  have hk2 : (if b1 then k1 + 1 else k1) = k2 := by
    cases b1 with
    | true => exact (HY1.out.1 rfl).2.1.symm
    | false => exact (HY1.out.2 rfl).2.symm
  rw [hk2] at HT
  obtain ⟨zt, hzt⟩ : ∃ zt, zt = w1.heap.size := ⟨_, rfl⟩
  rw [← hzt] at F1 hz1
  rw [← hzt]
  clear hk2 hcell hzt
  go_loopw [7] (fun q wr => ∃ (m f : Nat) (first : Bool) (cl : Cl), q = .bool first ∧ Ft w wr g B A c p m Tok.zero.cells zt (tcl b1 cl) ∧ p.length < f + m ∧ setM p k b1 f m first cl = T) (fun _ wr => p.length - posW g wr)
  case atStart => exact ⟨k2, p.length + 1, true, Cl.zero, rfl, F1.out, by omega, HT.out.symm⟩
  case round =>
    clear HT F1 HY1
    obtain ⟨m, f, first, cl, rfl, hF, hf, hr⟩ := hrel
    have F := Lib.hid hF
    have hm := hF.f.l.at_
    have HP := Lib.hid hF.f.l.pos
    obtain ⟨f, rfl⟩ : ∃ f', f = f' + 1 := ⟨f - 1, by omega⟩
    rw [setM_step] at hr
    have hc1 := hF.f.l.x.cells
    have hz_1 := hF.f.z.cells
    have hz_2 := hF.f.z.frozens
    have ht_1 := hF.b.cells
    have ht_2 := hF.b.frozens
    rw [zero_cells] at hz_1
    rw [tcl_cells] at ht_1
    by_cases hlt : m < p.length
    · obtain ⟨x, hx⟩ : ∃ x, (p[m].toNat : Int) = x := ⟨_, rfl⟩
      obtain ⟨hx0, hx1⟩ : 0 ≤ x ∧ x ≤ 255 := by have := (p[m]).toNat_lt; omega
      obtain ⟨ad, rfl⟩ : ∃ ad, A = some ad := by obtain ⟨ad, e, _⟩ := hF.f.l.r.at_ hlt; exact ⟨ad, e⟩
      have hb0 := hF.f.l.r.cell_ ⟨hlt, hx⟩
      have hX : byteAt p m = x := by rw [byteAt_lt p m hlt, hx]
      rw [hX, if_neg (by omega)] at hr
      have HD := Lib.hid (show decide (m + 0 < p.length) = true by simpa using hlt)
      have HX := Lib.hid hX
      clear hx hX hF
      by_cases hx93 : x = 93
      · subst hx93
        rw [if_pos rfl] at hr
        --<DONE        
        cases first with
        | true =>
          have HR := Lib.hid hr
          clear hr
          go_wp2
          go_quiet ((go_at_call 42; exact Calls.quiet_of (more_lit _ g B (some ad) c p m 0 true (Lx.drewN F.out.f.l _) (by omega) HD.out)))
          go_wp2
          have FE := fun i => (F.out.f.drewN i).fin (t := Tok.zero)
          simp only [setN, Tok.list, Tok.zero, Cl.zero, Nat.reduceAdd] at FE
          refine HQ.out _ _ ?_
          refine tok_end3 rfl (FE _).z rfl rfl rfl ⟨?_, (FE _).o⟩
          rw [← HR.out]
          exact ⟨_, m, rfl, (FE _).l, by decide⟩
        | false =>
          rw [if_neg (by decide)] at hr
          have HR := Lib.hid hr
          clear hr
          go_wp2
          go_quiet ((go_at_call 42; exact Calls.quiet_of (more_lit _ g B (some ad) c p m 0 true (Lx.drewN F.out.f.l _) (by omega) HD.out)))
          have FD := fun i => F.out.drewN i
          go_wp2_with (go_at_call 45; refine (comes_any _ g B (some ad) c p m 93 (FD _).f.l (by decide)).mono ?_; rintro e w2 ⟨b2, m2, rfl, hl2, ho2, hy2⟩; have F2 := Lib.hid ((FD _).only ho2 hl2); have hb2 := Lib.hid (show b2 = true ∧ m2 = m + 1 from (by cases b2 with | true => exact ⟨rfl, (hy2.1 rfl).2.1⟩ | false => exact absurd HX.out (hy2.2 rfl).1)); obtain ⟨rfl, rfl⟩ := hb2.out; clear hl2 ho2 hy2 hb2; have hz2_1 := F2.out.f.z.cells; rw [zero_cells] at hz2_1; have hz2_2 := F2.out.f.z.frozens; have ht2_1 := F2.out.b.cells; rw [tcl_cells] at ht2_1; have ht2_2 := F2.out.b.frozens; have hlt2 := F2.out.lt)
          cases b1 with
          | false =>
            go_region
            go_wp2
            have FE := (F2.out.f.fin (t := tcl false cl)).drew
            simp only [setN, Tok.list, tcl, Tok.zero, Cl.zero, Nat.reduceAdd] at FE
            refine HQ.out _ _ ?_
            refine tok_end3 rfl FE.z rfl rfl rfl ⟨?_, FE.o⟩
            rw [← HR.out, if_neg (by simp)]
            exact ⟨rfl, FE.l⟩
          | true =>
            have hE : ∃ b, (Cl.mk cl.a cl.b cl.c cl.d).eq Cl.full = b := ⟨_, rfl⟩
            obtain ⟨b, hE⟩ := hE
            have HE := Lib.hid (show (b = true ↔ cl = Cl.full) from by rw [← hE]; exact Cl.eq_iff cl Cl.full)
            go_region_with (go_at_call 64; refine (full_cls _).mono ?_; rintro e w3 ⟨rfl, hb3⟩; have F3 := Lib.hid ((F2.out.drewN _).kept hb3); clear hb3; have hz3_1 := F3.out.f.z.cells; rw [zero_cells] at hz3_1; have hz3_2 := F3.out.f.z.frozens; have ht3_1 := F3.out.b.cells; rw [tcl_cells] at ht3_1; have ht3_2 := F3.out.b.frozens; unfold Cl.v)
            all_goals
              cases b with
              | true =>
                go_wp2
                have FE := F3.out.f.fin (t := Tok.zero)
                simp only [setN, Tok.list, Tok.zero, Cl.zero, Nat.reduceAdd] at FE
                refine HQ.out _ _ ?_
                refine tok_end3 rfl FE.z rfl rfl rfl ⟨?_, FE.o⟩
                rw [← HR.out, if_pos ⟨by simp, HE.out.1 (by simp)⟩]
                exact ⟨_, _, rfl, FE.l, by decide⟩
              | false =>
                go_wp2
                have FE := F3.out.f.fin (t := tcl true cl)
                simp only [setN, Tok.list, tcl, Tok.zero, Cl.zero, Nat.reduceAdd] at FE
                refine HQ.out _ _ ?_
                refine tok_end3 rfl FE.z rfl rfl rfl ⟨?_, FE.o⟩
                rw [← HR.out, if_neg (fun h => by have := HE.out.2 h.2; cases this)]
                exact ⟨rfl, FE.l⟩
        --DONE>
      · rw [if_neg hx93] at hr
        have HR := Lib.hid hr
        clear hr
        go_upto_region 5 with fail
        go_cut [39] from 21 to 150 (fun s39 wx => s39 = .bool false ∧ Ft w wx g B (some ad) c p m Tok.zero.cells zt (tcl b1 cl))
        case first =>
          cases first
          · go_quiet ((go_at_call 42; exact Calls.quiet_of (more_lit _ g B (some ad) c p m 0 true (Lx.drewN F.out.f.l _) (by omega) HD.out)))
            go_wp2_with fail
            go_meet
            exact ⟨by simp, F.out.drewN _⟩
          · go_quiet ((go_at_call 42; exact Calls.quiet_of (more_lit _ g B (some ad) c p m 0 true (Lx.drewN F.out.f.l _) (by omega) HD.out)))
            go_wp2_with fail
            go_meet
            exact ⟨by simp [hx93], F.out.drewN _⟩
        case rest =>
          obtain ⟨rfl, hG⟩ := hcut
          have G := Lib.hid hG
          have hg1 := hG.f.l.x.cells
          have hg2 := hG.f.l.x.frozens
          clear hG hc1 hz_1 hz_2 ht_1 ht_2 hb0 F
          go_wp2_with (first | (go_at_call 60; refine (unit_any _ g B (some ad) c p m F2.out.f.l hlt).mono ?_; rintro e w5 ⟨hres, ho⟩; obtain ⟨lo, m1, b5, rfl, hl5, hu⟩ := hres.out; have F5 := Lib.hid (F2.out.only ho hl5); have HU := Lib.hid hu; clear hres ho hl5 hu; have hz5_1 := fun o => (F5.out.alloc o).f.z.cells; simp only [zero_cells] at hz5_1; have hz5_2 := fun o => (F5.out.alloc o).f.z.frozens; unfold Tok.v) | (go_at_call 45; refine (comes_any _ g B (some ad) c p m 93 G.out.f.l (by decide)).mono ?_; rintro e w2 ⟨b2, m2, rfl, hl2, ho2, hy2⟩; have F2 := Lib.hid (G.out.only ho2 hl2); have hb2 := Lib.hid (show b2 = false ∧ m = m2 from (by cases b2 with | true => exact absurd (HX.out.symm.trans (hy2.1 rfl).1) hx93 | false => exact ⟨rfl, (hy2.2 rfl).2.symm⟩)); obtain ⟨rfl, rfl⟩ := hb2.out; clear hl2 ho2 hy2 hb2; have hl2_1 := F2.out.f.l.x.cells))
          · have FE := fun o => (F5.out.alloc o).f.fin (t := Tok.zero)
            simp only [setN, Tok.list, Tok.zero, Cl.zero, Nat.reduceAdd] at FE
            refine HQ.out _ _ ?_
            refine tok_end3 rfl (FE _).z rfl rfl rfl ⟨?_, (FE _).o⟩
            have hb5 : b5 = false := by simpa using (by assumption : (!b5) = true)
            rw [← HR.out, HU.out, hb5]
            exact ⟨_, m1, rfl, (FE _).l, by decide⟩
          · have hb5 : b5 = true := by simpa using (by assumption : (!b5) = false)
            subst hb5
            have hunit : unitM p m = some (lo, m1) := by rw [HU.out]; rfl
            obtain ⟨u1, u2, u3, u4⟩ := unitM_facts p m lo m1 hlt hunit
            have hr := HR.out
            rw [hunit] at hr
            dsimp only at hr
            have HR := Lib.hid hr
            have HU := Lib.hid hunit
            have FU := Lib.hid (Fu.new F5.out lo)
            have hm1 := F5.out.f.l.at_
            clear hr hunit hg1 hg2 hl2_1
            obtain ⟨sA, hsA⟩ : ∃ sA : Bool, sA = decide (byteAt p (m1 + 1) < 0 ∨ byteAt p m1 ≠ 45 ∨ byteAt p (m1 + 1) = 93) := ⟨_, rfl⟩
            have HA := Lib.hid hsA
            have hl5 := fun o => (F5.out.alloc o).f.l.x.cells
            clear hsA
            go_cut [86] from 21 to 150 (fun s86 wx => s86 = .bool sA ∧ Fu w wx g B (some ad) c p m1 Tok.zero.cells zt (tcl b1 cl) w5.heap.size lo)
            case first =>
              --<DONE              
              by_cases q1 : m1 + 1 < p.length
              · obtain ⟨y0, hy0⟩ : ∃ y, (p[m1].toNat : Int) = y := ⟨_, rfl⟩
                obtain ⟨m2, hm2⟩ : ∃ m2, m2 = m1 + 1 := ⟨_, rfl⟩
                have q2 : m2 < p.length := by omega
                obtain ⟨y1, hy1⟩ : ∃ y, (p[m2].toNat : Int) = y := ⟨_, rfl⟩
                have hbA := fun o => (F5.out.alloc o).f.l.r.cell_ ⟨(by omega : m1 < p.length), hy0⟩
                have hbB := fun o => (F5.out.alloc o).f.l.r.cell_ ⟨q2, hy1⟩
                have hw1 : IntKind.i64.wrap ((m1 : Int) + 1) = (m2 : Int) := by rw [wrap_id _ (by omega) (by omega)]; omega
                have HD1 := Lib.hid (show decide (m1 + 1 < p.length) = true by simpa using q1)
                have hA := HA.out
                rw [byteAt_lt p m1 (by omega), hy0, ← hm2, byteAt_lt p m2 q2, hy1] at hA
                have hy1' : ¬ y1 < 0 := by have := (p[m2]).toNat_lt; omega
                have q3 : m1 < p.length := by omega
                have HA := Lib.hid hA
                clear hy0 hy1 hm2 hA
                by_cases e0 : y0 = 45
                · by_cases e1 : y1 = 93
                  · go_quiet ((go_at_call 42; exact Calls.quiet_of (more_lit _ g B (some ad) c p m1 1 true (Lx.drewN FU.out.f.f.l _) (by omega) HD1.out)))
                    go_wp2_with fail
                    go_meet
                    exact ⟨by rw [HA.out]; first | (simp [e0, e1]; done) | (rw [beq_eq_false_iff_ne.2 e1]; simp [hy1', e0, e1]), FU.out.drewN _⟩
                  · go_quiet ((go_at_call 42; exact Calls.quiet_of (more_lit _ g B (some ad) c p m1 1 true (Lx.drewN FU.out.f.f.l _) (by omega) HD1.out)))
                    go_wp2_with fail
                    go_meet
                    exact ⟨by rw [HA.out]; first | (simp [e0, e1]; done) | (rw [beq_eq_false_iff_ne.2 e1]; simp [hy1', e0, e1]), FU.out.drewN _⟩
                · have e1 := e0
                  go_quiet ((go_at_call 42; exact Calls.quiet_of (more_lit _ g B (some ad) c p m1 1 true (Lx.drewN FU.out.f.f.l _) (by omega) HD1.out)))
                  go_wp2_with fail
                  go_meet
                  exact ⟨by rw [HA.out]; first | (simp [e0]; done) | (rw [beq_eq_false_iff_ne.2 e1]; simp [hy1', e0, e1]), FU.out.drewN _⟩
              · have HD1 := Lib.hid (show decide (m1 + 1 < p.length) = false by simpa using q1)
                have hA := HA.out
                rw [byteAt_ge p (m1 + 1) (by omega)] at hA
                have HA := Lib.hid (show sA = true by rw [hA]; simp)
                clear hA
                go_quiet ((go_at_call 42; exact Calls.quiet_of (more_lit _ g B (some ad) c p m1 1 false (Lx.drewN FU.out.f.f.l _) (by omega) HD1.out)))
                go_wp2_with fail
                go_meet
                exact ⟨by rw [HA.out], FU.out.drewN _⟩
              --DONE>
            case rest =>
              obtain ⟨rfl, hG2⟩ := hcut
              generalize w5.heap.size = zl at *
              have G2 := Lib.hid hG2
              clear hG2 FU F5 hl5 hz5_1 hz5_2 G F2
              have hx_1 := G2.out.f.f.l.x.cells
              have hx_2 := G2.out.f.f.l.x.frozens
              have hz_1 := G2.out.f.f.z.cells
              have hz_2 := G2.out.f.f.z.frozens
              have ht_1 := G2.out.f.b.cells
              have ht_2 := G2.out.f.b.frozens
              have hl_1 := G2.out.b.cells
              have hl_2 := G2.out.b.frozens
              rw [zero_cells] at hz_1
              rw [tcl_cells] at ht_1
              unfold Tok.cells at hl_1
              cases sA with
              | true =>
                --<DONE                
                have hr := HR.out
                rw [if_pos (by have := HA.out; simpa using this.symm)] at hr
                have HR := Lib.hid hr
                clear hr
                go_upto_if 89 with fail
                go_cut [] from 21 to 150 (fun wx => Fu w wx g B (some ad) c p m1 Tok.zero.cells zt (tcl b1 cl) zl { lo with cls := lo.ofUnit })
                case first =>
                  by_cases h1 : lo.kind = 1
                  · obtain ⟨bb, hbb⟩ : ∃ bb : UInt8, lo.byte = (bb.toNat : Int) := ⟨UInt8.ofNat lo.byte.toNat, by rw [UInt8.toNat_ofNat']; omega⟩
                    have HO := Lib.hid (show lo.ofUnit = Cl.of [bb] by unfold Tok.ofUnit; rw [if_pos h1, hbb]; rfl)
                    rw [hbb] at hl_1
                    clear hbb
                    go_wp2_with (go_at_call 61; refine (of_cls _ _ _ [bb] (RdB.lit1 wc bb _) (by simp)).mono ?_; rintro e w6 ⟨rfl, hb6⟩; have F6 := Lib.hid ((G2.out.alloc _).kept hb6); clear hb6; have hl6_1 := F6.out.b.cells; unfold Tok.cells at hl6_1; have hl6_2 := F6.out.b.frozens; unfold Cl.v)
                    have F7 := F6.out.lcls (Cl.of [bb])
                    simp only [setN, Cl.list, Nat.reduceAdd] at F7
                    go_meet
                    rw [HO.out]
                    exact F7
                  · have HO := Lib.hid (show lo.ofUnit = lo.cls by unfold Tok.ofUnit; rw [if_neg h1])
                    go_wp2
                    go_meet
                    rw [HO.out]
                    exact G2.out
                case rest =>
                  obtain ⟨lc, hlc⟩ : ∃ lc, lc = lo.ofUnit := ⟨_, rfl⟩
                  rw [← hlc] at hcut
                  have HR' := HR.out
                  rw [← hlc] at HR'
                  have HR := Lib.hid HR'
                  have G3 := Lib.hid hcut
                  clear hcut HR' hx_1 hx_2 hz_1 hz_2 ht_1 ht_2 hl_1 hl_2 hlc
                  have ht_1 := G3.out.f.b.cells
                  rw [tcl_cells] at ht_1
                  have hl_1 := G3.out.b.cells
                  unfold Tok.cells at hl_1
                  go_wp2_with (go_at_call 62; refine (union_cls _ _ _ [cl, lc] (Bk.new wc 47 ([cl, lc].flatMap Cl.list).toArray) (by simp)).mono ?_; rintro e w8 ⟨rfl, hb8⟩; have F8 := Lib.hid ((G3.out.alloc _).kept hb8); clear hb8; have ht8_1 := F8.out.f.b.cells; rw [tcl_cells] at ht8_1; have ht8_2 := F8.out.f.b.frozens; unfold Cl.v)
                  have F9 := F8.out.tcls (Cl.union [cl, lc])
                  simp only [setN, Cl.list, Nat.reduceAdd] at F9
                  refine ⟨⟨m1, f, false, Cl.union [cl, lc], rfl, F9.f, by omega, HR.out⟩, ?_⟩
                  rw [F9.f.f.l.pos, HP.out]
                  omega
                --DONE>
              | false =>
                have hcond : ¬ (byteAt p (m1 + 1) < 0 ∨ byteAt p m1 ≠ 45 ∨ byteAt p (m1 + 1) = 93) := by have := HA.out; simpa using this.symm
                have hr := HR.out
                rw [if_neg hcond] at hr
                have hq : m1 + 1 < p.length := byteAt_pos p (m1 + 1) (by omega)
                obtain ⟨m2, hm2⟩ : ∃ m2, m2 = m1 + 1 := ⟨_, rfl⟩
                have hw1 : IntKind.i64.wrap ((m1 : Int) + 1) = (m2 : Int) := by rw [wrap_id _ (by omega) (by omega)]; omega
                rw [← hm2] at hr hq
                rw [show (m1 : Int) + 1 = (m2 : Int) from by omega] at hr
                have HR := Lib.hid hr
                have G3 := Lib.hid (G2.out.step m2 (by omega))
                have HM2 := Lib.hid hm2
                clear hr hcond hm2
                go_upto_region 18 with fail
                go_cut [10, 12] from 21 to 150 (fun s10 s12 wx => ∃ (b6 : Bool) (hi : Tok) (m3 zh : Nat), s10 = .bool b6 ∧ s12 = .pointer (some ⟨zh, 0, none⟩) ∧ Fv w wx g B (some ad) c p m3 Tok.zero.cells zt (tcl b1 cl) zl lo zh hi ∧ unitM p m2 = if b6 then some (hi, m3) else none)
                case first =>
                  go_wp2_with (go_at_call 60; refine (unit_any _ g B (some ad) c p m2 G3.out.f.f.l hq).mono ?_; rintro e w6 ⟨hres, ho⟩; obtain ⟨hi, m3, b6, rfl, hl6, hu⟩ := hres.out; have F6 := Lib.hid (G3.out.only ho hl6); have HU6 := Lib.hid hu; clear hres ho hl6 hu; unfold Tok.v)
                  go_meet
                  exact ⟨b6, hi, m3, _, rfl, rfl, Fv.new F6.out hi, HU6.out⟩
                case rest =>
                  obtain ⟨b6, hi, m3, zh, rfl, rfl, hV, hu6⟩ := hcut
                  have V := Lib.hid hV
                  have HU6 := Lib.hid hu6
                  clear G3 hu6 hV hx_1 hx_2 hz_1 hz_2 ht_1 ht_2 hl_1 hl_2 hw1
                  have hz_1 := V.out.f.f.f.z.cells
                  have hz_2 := V.out.f.f.f.z.frozens
                  have hl_1 := V.out.f.b.cells
                  have hh_1 := V.out.b.cells
                  have ht_1 := V.out.f.f.b.cells
                  rw [zero_cells] at hz_1
                  rw [tcl_cells] at ht_1
                  unfold Tok.cells at hl_1 hh_1
                  cases b6 with
                  | false =>
                    go_wp2
                    have FE := V.out.f.f.f.fin (t := Tok.zero)
                    simp only [setN, Tok.list, Tok.zero, Cl.zero, Nat.reduceAdd] at FE
                    refine HQ.out _ _ ?_
                    refine tok_end3 rfl FE.z rfl rfl rfl ⟨?_, FE.o⟩
                    rw [← HR.out, HU6.out]
                    exact ⟨_, m3, rfl, FE.l, by decide⟩
                  | true =>
                    have hr := HR.out
                    rw [HU6.out] at hr
                    simp only [if_true] at hr
                    by_cases e1 : lo.kind = 1
                    · have f1 : (lo.kind != 1) = false := by simp [e1]
                      by_cases e2 : hi.kind = 1
                      · have f2 : (hi.kind != 1) = false := by simp [e2]
                        by_cases e3 : lo.byte ≤ hi.byte
                        · rw [if_neg (by omega)] at hr
                          have HR := Lib.hid hr
                          clear e1 e2
                          obtain ⟨v1, v2, v3, v4⟩ := unitM_facts p m2 hi m3 hq HU6.out
                          have hm2 := HM2.out
                          clear hr
                          go_upto_region 23 with fail
                          have S1 : wc.cell? ⟨zl, 1, none⟩ = some (.int .u8 lo.byte) := cell_of V.out.f.b 1 _ rfl
                          have S2 : wc.cell? ⟨zh, 1, none⟩ = some (.int .u8 hi.byte) := cell_of V.out.b 1 _ rfl
                          have S3 : wc.drew.cell? ⟨zl, 1, none⟩ = some (.int .u8 lo.byte) := S1
                          have S4 : wc.drew.cell? ⟨zh, 1, none⟩ = some (.int .u8 hi.byte) := S2
                          have hzl := V.out.f.lt
                          have hzh := V.out.lt
                          have n1 : zl ≠ zt := by omega
                          have n2 : zh ≠ zt := by omega
                          clear hzl hzh hl_1 hh_1 hz_1 hz_2 hw
                          go_region_with (first | (go_at_call 62; refine (union_cls _ _ _ [cl, Cl.range lo.byte hi.byte] (Bk.new w7 47 ([cl, Cl.range lo.byte hi.byte].flatMap Cl.list).toArray) (by simp)).mono ?_; rintro e w8 ⟨rfl, hb8⟩; have F8 := Lib.hid ((V7.out.f.f.alloc _).kept hb8); have ht8_1 := F8.out.b.cells; rw [tcl_cells] at ht8_1; have ht8_2 := F8.out.b.frozens; have c8a := cell_keep hb8 (Lib.cell?_alloc_some _ c7a); have c8b := cell_keep hb8 (Lib.cell?_alloc_some _ c7b); unfold Cl.v) | (go_at_call 63; refine (range_cls _ lo.byte hi.byte (by omega) (by omega) (by omega) (by omega)).mono ?_; rintro e w7 ⟨rfl, hb7⟩; have c7a := cell_keep hb7 S3; have c7b := cell_keep hb7 S4; have V7 := Lib.hid ((V.out.drewN _).kept hb7); have ht7_1 := V7.out.f.f.b.cells; rw [tcl_cells] at ht7_1; unfold Cl.v))
                          all_goals
                            go_wp2
                            have F9 := F8.out.cls (Cl.union [cl, Cl.range lo.byte hi.byte])
                            simp only [setN, Cl.list, Nat.reduceAdd] at F9
                            refine ⟨⟨m3, f, false, Cl.union [cl, Cl.range lo.byte hi.byte], rfl, F9, by omega, HR.out⟩, ?_⟩
                            rw [F9.f.l.pos, HP.out]
                            omega
                        · rw [if_pos (by omega)] at hr
                          have HR := Lib.hid hr
                          have e4 : hi.byte < lo.byte := by omega
                          clear hr e3 e1 e2
                          go_wp2
                          have FE := V.out.f.f.f.fin (t := Tok.zero)
                          simp only [setN, Tok.list, Tok.zero, Cl.zero, Nat.reduceAdd] at FE
                          refine HQ.out _ _ ?_
                          refine tok_end3 rfl FE.z rfl rfl rfl ⟨?_, FE.o⟩
                          rw [← HR.out]
                          exact ⟨_, m3, rfl, FE.l, by decide⟩
                      · have f2 : (hi.kind != 1) = true := by simpa using e2
                        rw [if_pos (by omega)] at hr
                        have HR := Lib.hid hr
                        clear hr e1 e2
                        go_wp2
                        have FE := V.out.f.f.f.fin (t := Tok.zero)
                        simp only [setN, Tok.list, Tok.zero, Cl.zero, Nat.reduceAdd] at FE
                        refine HQ.out _ _ ?_
                        refine tok_end3 rfl FE.z rfl rfl rfl ⟨?_, FE.o⟩
                        rw [← HR.out]
                        exact ⟨_, m3, rfl, FE.l, by decide⟩
                    · have f1 : (lo.kind != 1) = true := by simpa using e1
                      rw [if_pos (by omega)] at hr
                      have HR := Lib.hid hr
                      clear hr e1
                      go_wp2
                      have FE := V.out.f.f.f.fin (t := Tok.zero)
                      simp only [setN, Tok.list, Tok.zero, Cl.zero, Nat.reduceAdd] at FE
                      refine HQ.out _ _ ?_
                      refine tok_end3 rfl FE.z rfl rfl rfl ⟨?_, FE.o⟩
                      rw [← HR.out]
                      exact ⟨_, m3, rfl, FE.l, by decide⟩
    --<DONE    
    · rw [if_pos (by rw [byteAt_ge p m (by omega)]; decide)] at hr
      have HR := Lib.hid hr
      have HD := Lib.hid (show decide (m + 0 < p.length) = false by simpa using hlt)
      clear hr hF
      go_wp2
      go_quiet ((go_at_call 42; exact Calls.quiet_of (more_lit _ g B A c p m 0 false (Lx.drewN F.out.f.l _) (by omega) HD.out)))
      go_wp2
      have FE := fun i => (F.out.f.drewN i).fin (t := Tok.zero)
      simp only [setN, Tok.list, Tok.zero, Cl.zero, Nat.reduceAdd] at FE
      refine HQ.out _ _ ?_
      refine tok_end3 rfl (FE _).z rfl rfl rfl ⟨?_, (FE _).o⟩
      rw [← HR.out]
      exact ⟨_, m, rfl, (FE _).l, by decide⟩
    --DONE>
end Go.Proofs.Ytkfjnllbjlndlaa
