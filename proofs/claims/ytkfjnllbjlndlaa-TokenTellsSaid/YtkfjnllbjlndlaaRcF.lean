/- The reference's brackets. -/
import Derived.Test.YtkfjnllbjlndlaaRcE
import Derived.Test.YtkfjnllbjlndlaaClsQ
import Derived.Deep.RegionHeld3
import Derived.Deep.QuietTactic
import Derived.BigQuiet
import Derived.Deep.RegionWith
import Derived.Deep.CutBlock
namespace Go.Proofs.Ytkfjnllbjlndlaa
open Go.RowKit

def RBra (w w' : World) (n : Bool) (r : Rd Cl) (e : Ending) : Prop :=
  (match r with
  | .ok cl k' => e = .returned (.tuple #[({ Tok.zero with kind := 2, cls := cl, not_ := n } : Tok).v, .int .i64 k', .int .i64 0])
  | .bad a er => e = .returned (.tuple #[Tok.zero.v, .int .i64 a, .int .i64 er]) ∧ er ≠ 0) ∧ Below w.heap.size w w'

/-- .. and tokens beside. -/
structure R3 (w W : World) (cl : Cl) (z : Nat) (t : Tok) : Prop where
  f : R2 w W 47 cl.cells
  b : Bk W z 49 t.cells
  lt : w.heap.size + 1 < z
section
variable {w W W' : World} {cl : Cl} {z zh : Nat} {t hi : Tok}
theorem R3.new (h : R2 w W 47 cl.cells) (t : Tok) : R3 w (W.alloc (.cells t.cells 49)) cl W.heap.size t := ⟨h.alloc _, Bk.new W _ _, h.b.lt⟩
theorem R3.step (h : R3 w W cl z t) (hb : Below W.heap.size W W') : R3 w W' cl z t := ⟨h.f.step hb, h.b.kept hb, h.lt⟩
theorem R3.alloc (h : R3 w W cl z t) (o : Obj) : R3 w (W.alloc o) cl z t := ⟨h.f.alloc o, h.b.alloc o, h.lt⟩
theorem R3.drewN (h : R3 w W cl z t) (n : Nat) : R3 w (W.drewN n) cl z t := ⟨h.f.drewN n, h.b.drewN n, h.lt⟩
end
structure R4 (w W : World) (cl : Cl) (z : Nat) (t : Tok) (zh : Nat) (hi : Tok) : Prop where
  f : R3 w W cl z t
  b : Bk W zh 49 hi.cells
  lt : z < zh
section
variable {w W W' : World} {cl : Cl} {z zh : Nat} {t hi : Tok}
theorem R4.new (h : R3 w W cl z t) (hi : Tok) : R4 w (W.alloc (.cells hi.cells 49)) cl z t W.heap.size hi := ⟨h.alloc _, Bk.new W _ _, h.b.lt⟩
theorem R4.step (h : R4 w W cl z t zh hi) (hb : Below W.heap.size W W') : R4 w W' cl z t zh hi := ⟨h.f.step hb, h.b.kept hb, h.lt⟩
theorem R4.alloc (h : R4 w W cl z t zh hi) (o : Obj) : R4 w (W.alloc o) cl z t zh hi := ⟨h.f.alloc o, h.b.alloc o, h.lt⟩
theorem R4.drewN (h : R4 w W cl z t zh hi) (n : Nat) : R4 w (W.drewN n) cl z t zh hi := ⟨h.f.drewN n, h.b.drewN n, h.lt⟩
theorem R2.rd {T : TypeId} {cs : Array Value} {A : Option Addr} {p : List UInt8} (h : R2 w W T cs) (hr : RdB w w.heap.size A p) : RdB W W.heap.size A p := Reads.more (Reads.below hr h.z.2) h.z.2.size
theorem R2.putc (h : R2 w W 47 cl.cells) (c' : Cl) : R2 w (setN W (w.heap.size + 1) 0 c'.list) 47 c'.cells := h.put c'.list
end

theorem hexM_le (p : List UInt8) (k : Nat) (t : Tok) (k' : Nat) (h : hexM p k = some (t, k')) : k' ≤ p.length := by
  unfold hexM at h
  rcases ha : nibM (byteAt p k) with _ | a
  · rw [ha] at h; cases h
  · rcases hb : nibM (byteAt p (k + 1)) with _ | b
    · rw [ha, hb] at h; cases h
    · rw [ha, hb] at h
      injection h with h
      injection h with _ h
      rcases Nat.lt_or_ge (k + 1) p.length with h1 | h1
      · omega
      · rw [byteAt_ge p (k + 1) h1, show nibM (-1) = none from by decide] at hb; cases hb
theorem escM_le (p : List UInt8) (k : Nat) (t : Tok) (k' : Nat) (h : escM p k = some (t, k')) : k' ≤ p.length := by
  rw [escM_at p k _ rfl] at h
  by_cases hb : byteAt p k < 0
  · rw [if_pos hb] at h; cases h
  have hk := byteAt_pos p k (by omega)
  have key : ∀ u : Tok, some (u, k + 1) = some (t, k') → k' ≤ p.length := by
    intro u he
    injection he with he
    injection he with _ he
    omega
  rw [if_neg hb] at h
  by_cases c1 : byteAt p k = 100
  · rw [if_pos c1] at h; exact key _ h
  rw [if_neg c1] at h
  by_cases c2 : byteAt p k = 119
  · rw [if_pos c2] at h; exact key _ h
  rw [if_neg c2] at h
  by_cases c3 : byteAt p k = 115
  · rw [if_pos c3] at h; exact key _ h
  rw [if_neg c3] at h
  by_cases c4 : byteAt p k = 68
  · rw [if_pos c4] at h; exact key _ h
  rw [if_neg c4] at h
  by_cases c5 : byteAt p k = 87
  · rw [if_pos c5] at h; exact key _ h
  rw [if_neg c5] at h
  by_cases c6 : byteAt p k = 83
  · rw [if_pos c6] at h; exact key _ h
  rw [if_neg c6] at h
  by_cases c7 : byteAt p k = 110
  · rw [if_pos c7] at h; exact key _ h
  rw [if_neg c7] at h
  by_cases c8 : byteAt p k = 114
  · rw [if_pos c8] at h; exact key _ h
  rw [if_neg c8] at h
  by_cases c9 : byteAt p k = 116
  · rw [if_pos c9] at h; exact key _ h
  rw [if_neg c9] at h
  by_cases c10 : byteAt p k = 120
  · rw [if_pos c10] at h; exact hexM_le _ _ _ _ h
  rw [if_neg c10] at h
  by_cases c11 : (letM (byteAt p k) || digM (byteAt p k)) = true
  · rw [if_pos c11] at h; cases h
  rw [if_neg c11] at h
  exact key _ h
theorem unitM_le (p : List UInt8) (k : Nat) (t : Tok) (k' : Nat) (hk : k < p.length) (h : unitM p k = some (t, k')) : k' ≤ p.length := by
  unfold unitM at h
  split at h
  · exact escM_le _ _ _ _ h
  · injection h with h; injection h with _ h; omega

set_option maxRecDepth 100000 in
set_option maxHeartbeats 4000000 in
theorem rbra_any (w : World) (A : Option Addr) (c : Nat) (p : List UInt8) (k k1 : Nat) (hk1 : k1 = k + 1) (hr : RdB w w.heap.size A p) (hs : p.length ≤ 1024) (hk : k < p.length) (n : Bool) (hn : n = decide (byteAt p k1 = 94)) :
    Calls Try.prog 67 #[.slice A p.length c, .int .i64 k] w fun e w' => RBra w w' n (setM p k n (p.length + 1) (if n then k1 + 1 else k1) true Cl.zero) e := by
  obtain ⟨T, hT⟩ : ∃ T, T = setM p k n (p.length + 1) (if n then k1 + 1 else k1) true Cl.zero := ⟨_, rfl⟩
  have HT := Lib.hid hT
  rw [← hT]
  have HRW := Lib.hid hr
  have hv1 : (k : Int) + 1 = (k1 : Int) := by omega
  have hk1l : k1 ≤ p.length := by omega
  have HK := Lib.hid hk1
  have F0 := Lib.hid (R2.new w 47 Cl.zero.cells)
  obtain ⟨k2, hk2⟩ : ∃ k2, k2 = (if n then k1 + 1 else k1) := ⟨_, rfl⟩
  have hk2l : k2 ≤ p.length := by
    rw [hk2]; split
    · have := byteAt_pos p k1 (by have h := hn; rw [eq_comm] at h; simp_all)
      omega
    · exact hk1l
  have HK2 := Lib.hid hk2
  have HN := Lib.hid hn
  rw [← hk2] at HT
  clear hr hT hk1 hk2 hn
  go_enter Try.func67, Try.ntmps67
  refine shut_post fun E0 HQ => ?_
  go_upto_region 3 with fail
  go_cut [9] from 17 to 27 (fun s9 wx => s9 = .bool n ∧ R2 w wx 47 Cl.zero.cells)
  case first =>
    by_cases hl : k1 < p.length
    · obtain ⟨y, hy⟩ : ∃ y, (p[k1].toNat : Int) = y := ⟨_, rfl⟩
      obtain ⟨ad, rfl⟩ : ∃ ad, A = some ad := by obtain ⟨ad, e, _⟩ := HRW.out.at_ hl; exact ⟨ad, e⟩
      have hb := fun o o' => RdB.cell_ (Reads.alloc (Reads.alloc HRW.out (Nat.le_refl _) o) (by rw [World.size_alloc]; omega) o') ⟨hl, hy⟩
      have HY := Lib.hid (show n = (y == 94) by rw [HN.out, byteAt_lt p k1 hl, hy]; rw [Bool.eq_iff_iff]; simp)
      clear hy
      go_wp2_with fail
      go_meet
      exact ⟨by rw [HY.out]; try rfl, F0.out⟩
    · have HY := Lib.hid (show n = false by rw [HN.out, byteAt_ge p k1 (by omega)]; rfl)
      go_wp2_with fail
      go_meet
      exact ⟨by rw [HY.out], F0.out⟩
  case rest =>
    obtain ⟨rfl, hF⟩ := hcut
    have F1 := Lib.hid hF
    clear hF F0
    go_upto_if 28 with fail
    go_cut [8] from 28 to 30 (fun s8 wx => s8 = .int .i64 k2 ∧ R2 w wx 47 Cl.zero.cells)
    case first =>
      cases n with
      | true =>
        have hv2 : (k1 : Int) + 1 = (k2 : Int) := by have := HK2.out; simp at this; omega
        go_wp2_with fail
        go_meet
        exact ⟨rfl, F1.out⟩
      | false =>
        have hv2 : (k1 : Int) = (k2 : Int) := by have := HK2.out; simp at this; omega
        go_wp2_with fail
        go_meet
        exact ⟨by rw [hv2], F1.out⟩
    case rest =>
      obtain ⟨rfl, hF⟩ := hcut
      have F2 := Lib.hid hF
      clear hF F1
      have hq := fun (a b c d : Int) (e : Cl) (W : World) => eql_class ⟨a, b, c, d⟩ e W
      simp only [Cl.v] at hq
      go_wp2
      go_loopw [8, 10] (fun q r wr => ∃ (m f : Nat) (u : Int) (cl : Cl), q = .int .i64 m ∧ r = .int .i64 u ∧ 0 ≤ u ∧ u ≤ m ∧ m ≤ p.length ∧ R2 w wr 47 cl.cells ∧ p.length < f + m ∧ setM p k n f m (decide (u = 0)) cl = T) (fun q _ _ => p.length - (intOf q).toNat)
      case atStart => exact ⟨k2, p.length + 1, 0, Cl.zero, rfl, rfl, by omega, by omega, hk2l, F2.out, by omega, HT.out.symm⟩
      case round =>
        clear HT F2
        obtain ⟨m, f, u, cl, rfl, rfl, hu, hum, hm, hF, hf, hr⟩ := hrel
        have F := Lib.hid hF
        obtain ⟨f, rfl⟩ : ∃ f', f = f' + 1 := ⟨f - 1, by omega⟩
        rw [setM_step] at hr
        have hz_1 := hF.z.1.cells
        rw [z_cells] at hz_1
        have hz_2 := hF.z.1.frozens
        have hc_1 := hF.b.cells
        simp only [Cl.cells] at hc_1
        by_cases hlt : m < p.length
        · obtain ⟨x, hx⟩ : ∃ x, (p[m].toNat : Int) = x := ⟨_, rfl⟩
          obtain ⟨hx0, hx1⟩ : 0 ≤ x ∧ x ≤ 255 := by have := (p[m]).toNat_lt; omega
          obtain ⟨ad, rfl⟩ : ∃ ad, A = some ad := by obtain ⟨ad, e, _⟩ := HRW.out.at_ hlt; exact ⟨ad, e⟩
          have hb0 := RdB.cell_ (hF.rd HRW.out) ⟨hlt, hx⟩
          have hX : byteAt p m = x := by rw [byteAt_lt p m hlt, hx]
          rw [hX, if_neg (by omega)] at hr
          have hl2 : ¬ p.length ≤ m := by omega
          have hl3 : decide (p.length ≤ m) = false := decide_eq_false hl2
          clear hx hX hF
          by_cases hx93 : x = 93
          · subst hx93
            rw [if_pos rfl] at hr
            by_cases hu0 : u = 0
            · subst hu0
              rw [if_pos (by simp)] at hr
              have HR := Lib.hid hr
              clear hr
              go_wp2
              go_quiet (fail)
              go_wp2
              have FE := fun i => (F.out.drewN i).fin Tok.zero
              simp only [setN, Tok.list, Tok.zero, Cl.zero, Nat.reduceAdd] at FE
              refine HQ.out _ _ ?_
              refine tok_three (t := Tok.zero) rfl (FE _).1 rfl rfl rfl ⟨?_, (FE _).2⟩
              rw [← HR.out]
              exact ⟨rfl, by decide⟩
            · rw [if_neg (by simpa using hu0)] at hr
              have hu1 : (u == 0) = false := beq_eq_false_iff_ne.2 hu0
              obtain ⟨m1, hm1⟩ : ∃ m1, m1 = m + 1 := ⟨_, rfl⟩
              have hvm : (m : Int) + 1 = (m1 : Int) := by omega
              have HM1 := Lib.hid hm1
              rw [← hm1] at hr
              have HR := Lib.hid hr
              clear hr hm1
              cases n with
              | false =>
                go_wp2
                go_quiet (fail)
                go_wp2
                have FE := fun i => (F.out.drewN i).fin { Tok.zero with kind := 2, cls := cl, not_ := false }
                simp only [setN, Tok.list, Tok.zero, Cl.zero, Nat.reduceAdd] at FE
                refine HQ.out _ _ ?_
                refine tok_three (t := { Tok.zero with kind := 2, cls := cl, not_ := false }) rfl (FE _).1 rfl rfl rfl ⟨?_, (FE _).2⟩
                rw [← HR.out, if_neg (by simp)]
              | true =>
                obtain ⟨b, hE⟩ : ∃ b, (Cl.mk cl.a cl.b cl.c cl.d).eq Cl.full = b := ⟨_, rfl⟩
                have HE := Lib.hid (show (b = true ↔ cl = Cl.full) from by rw [← hE]; exact Cl.eq_iff cl Cl.full)
                go_wp2
                have S1 : wr.cell? ⟨w.heap.size + 1, 0, none⟩ = some (.int .u64 cl.a) := cell_of F.out.b 0 _ rfl
                have S2 : wr.cell? ⟨w.heap.size + 1, 1, none⟩ = some (.int .u64 cl.b) := cell_of F.out.b 1 _ rfl
                have S3 : wr.cell? ⟨w.heap.size + 1, 2, none⟩ = some (.int .u64 cl.c) := cell_of F.out.b 2 _ rfl
                have S4 : wr.cell? ⟨w.heap.size + 1, 3, none⟩ = some (.int .u64 cl.d) := cell_of F.out.b 3 _ rfl
                have D1 : wr.drew.cell? ⟨w.heap.size + 1, 0, none⟩ = some (.int .u64 cl.a) := S1
                have D2 : wr.drew.cell? ⟨w.heap.size + 1, 1, none⟩ = some (.int .u64 cl.b) := S2
                have D3 : wr.drew.cell? ⟨w.heap.size + 1, 2, none⟩ = some (.int .u64 cl.c) := S3
                have D4 : wr.drew.cell? ⟨w.heap.size + 1, 3, none⟩ = some (.int .u64 cl.d) := S4
                go_region_held3 (fun W => W.cell? ⟨w.heap.size + 1, 0, none⟩ = some (.int .u64 cl.a) ∧ W.cell? ⟨w.heap.size + 1, 1, none⟩ = some (.int .u64 cl.b) ∧ W.cell? ⟨w.heap.size + 1, 2, none⟩ = some (.int .u64 cl.c) ∧ W.cell? ⟨w.heap.size + 1, 3, none⟩ = some (.int .u64 cl.d))
                  ((go_split_ands; (repeat' apply And.intro) <;> first | with_reducible assumption | exact cell_keep hb3 D1 | exact cell_keep hb3 D2 | exact cell_keep hb3 D3 | exact cell_keep hb3 D4))
                  (first | (go_at_call 84; refine (refFull_cls _).mono ?_; rintro e w3 ⟨rfl, hb3⟩; have F3 := Lib.hid ((F.out.drewN _).step hb3); have hz3_1 := F3.out.z.1.cells; rw [z_cells] at hz3_1; have hz3_2 := F3.out.z.1.frozens; have hc3_1 := F3.out.b.cells; simp only [Cl.cells] at hc3_1; unfold Cl.v))
                all_goals
                  cases b with
                  | true =>
                    go_wp2
                    have FE := F3.out.fin Tok.zero
                    simp only [setN, Tok.list, Tok.zero, Cl.zero, Nat.reduceAdd] at FE
                    refine HQ.out _ _ ?_
                    refine tok_three (t := Tok.zero) rfl FE.1 rfl rfl rfl ⟨?_, FE.2⟩
                    rw [← HR.out]; rw [if_pos ⟨by simp, HE.out.1 (by simp)⟩]
                    exact ⟨rfl, by decide⟩
                  | false =>
                    go_wp2
                    have FE := F3.out.fin { Tok.zero with kind := 2, cls := cl, not_ := true }
                    simp only [setN, Tok.list, Tok.zero, Cl.zero, Nat.reduceAdd] at FE
                    refine HQ.out _ _ ?_
                    refine tok_three (t := { Tok.zero with kind := 2, cls := cl, not_ := true }) rfl FE.1 rfl rfl rfl ⟨?_, FE.2⟩
                    rw [← HR.out, if_neg (fun h => by have := HE.out.2 h.2; cases this)]
          · rw [if_neg hx93] at hr
            have hx93b : (x == 93) = false := beq_eq_false_iff_ne.2 hx93
            rcases hun : unitM p m with _ | ⟨lo, m1⟩
            · rw [hun] at hr
              have HR := Lib.hid hr
              have HUN := Lib.hid hun
              clear hr hun
              go_wp2_with (go_at_call 80; refine (runit_any _ (some ad) c p m (F.out.rd HRW.out) hs hlt).mono ?_; rintro e w5 ⟨rfl, hb⟩; have F5 := Lib.hid (F.out.step hb); clear hb; rw [HUN.out]; have hz5_1 := fun o => (F5.out.alloc o).z.1.cells; simp only [z_cells] at hz5_1; have hz5_2 := fun o => (F5.out.alloc o).z.1.frozens; have hc5_1 := fun o => (F5.out.alloc o).b.cells; simp only [Cl.cells] at hc5_1; simp only [rtok, rend, Tok.v, Tok.zero, Cl.zero])
              have FE := fun o => (F5.out.alloc o).fin Tok.zero
              simp only [setN, Tok.list, Tok.zero, Cl.zero, Nat.reduceAdd] at FE
              refine HQ.out _ _ ?_
              refine tok_three (t := Tok.zero) rfl (FE _).1 rfl rfl rfl ⟨?_, (FE _).2⟩
              rw [← HR.out]
              exact ⟨rfl, by decide⟩
            · rw [hun] at hr
              dsimp only at hr
              obtain ⟨u1, u2, u3, u4⟩ := unitM_facts p m lo m1 hlt hun
              have hm1l : m1 ≤ p.length := unitM_le p m lo m1 hlt hun
              have hm1i : ¬ (m1 : Int) = 0 := by omega
              have hm1b : ((m1 : Int) == 0) = false := beq_eq_false_iff_ne.2 hm1i
              have HR := Lib.hid hr
              have HUN := Lib.hid hun
              clear hr hun
              obtain ⟨sA, hsA⟩ : ∃ sA : Bool, sA = decide (byteAt p (m1 + 1) < 0 ∨ byteAt p m1 ≠ 45 ∨ byteAt p (m1 + 1) = 93) := ⟨_, rfl⟩
              have HA := Lib.hid hsA
              clear hsA
              go_upto_region 14 with (go_at_call 80; refine (runit_any _ (some ad) c p m (F.out.rd HRW.out) hs hlt).mono ?_; rintro e w5 ⟨rfl, hb⟩; have F5 := Lib.hid (F.out.step hb); clear hb; rw [HUN.out]; have hz5_1 := fun o => (F5.out.alloc o).z.1.cells; simp only [z_cells] at hz5_1; have hz5_2 := fun o => (F5.out.alloc o).z.1.frozens; have hc5_1 := fun o => (F5.out.alloc o).b.cells; simp only [Cl.cells] at hc5_1; simp only [rtok, rend, Tok.v])
              have FU := Lib.hid (R3.new F5.out lo)
              go_cut [75] from 31 to 118 (fun s wx => s = .bool sA ∧ R3 w wx cl w5.heap.size lo)
              case first =>
                by_cases q1 : m1 + 1 < p.length
                · obtain ⟨y0, hy0⟩ : ∃ y, (p[m1].toNat : Int) = y := ⟨_, rfl⟩
                  obtain ⟨m2, hm2⟩ : ∃ m2, m2 = m1 + 1 := ⟨_, rfl⟩
                  have q2 : m2 < p.length := by omega
                  obtain ⟨y1, hy1⟩ : ∃ y, (p[m2].toNat : Int) = y := ⟨_, rfl⟩
                  have hbA := fun o => RdB.cell_ ((F5.out.alloc o).rd HRW.out) ⟨(by omega : m1 < p.length), hy0⟩
                  have hbB := fun o => RdB.cell_ ((F5.out.alloc o).rd HRW.out) ⟨q2, hy1⟩
                  have hvm : (m1 : Int) + 1 = (m2 : Int) := by omega
                  have hA := HA.out
                  rw [byteAt_lt p m1 (by omega), hy0, ← hm2, byteAt_lt p m2 q2, hy1] at hA
                  have hy1' : ¬ y1 < 0 := by have := (p[m2]).toNat_lt; omega
                  have q3 : m1 < p.length := by omega
                  have q4 : ¬ p.length ≤ m2 := by omega
                  have HA := Lib.hid hA
                  clear hy0 hy1 hm2 hA
                  by_cases e0 : y0 = 45
                  · by_cases e1 : y1 = 93
                    · go_wp2_with fail
                      go_meet
                      exact ⟨by rw [HA.out]; first | (simp [e0, e1]; done) | (rw [beq_eq_false_iff_ne.2 e1]; simp [hy1', e0, e1, q4]), FU.out⟩
                    · go_wp2_with fail
                      go_meet
                      exact ⟨by rw [HA.out]; first | (simp [e0, e1]; done) | (rw [beq_eq_false_iff_ne.2 e1]; simp [hy1', e0, e1]), FU.out⟩
                  · have e1 := e0
                    go_wp2_with fail
                    go_meet
                    exact ⟨by rw [HA.out]; first | (simp [e0]; done) | (rw [beq_eq_false_iff_ne.2 e1]; simp [hy1', e0, e1, q4]), FU.out⟩
                · have hA := HA.out
                  rw [byteAt_ge p (m1 + 1) (by omega)] at hA
                  have HA := Lib.hid (show sA = true by rw [hA]; simp)
                  have hvm : ¬ (m1 : Int) + 1 < (p.length : Int) := by omega
                  have hvn : (p.length : Int) ≤ (m1 : Int) + 1 := by omega
                  clear hA
                  go_wp2_with fail
                  go_meet
                  exact ⟨by rw [HA.out], FU.out⟩
              case rest =>
                obtain ⟨rfl, hG⟩ := hcut
                generalize w5.heap.size = zl at *
                have G := Lib.hid hG
                clear hG FU F5 hz5_1 hz5_2 hc5_1 F hz_1 hz_2 hc_1 hb0
                have hz_1 := G.out.f.z.1.cells
                rw [z_cells] at hz_1
                have hz_2 := G.out.f.z.1.frozens
                have hc_1 := G.out.f.b.cells
                simp only [Cl.cells] at hc_1
                have hc_2 := G.out.f.b.frozens
                have hl_1 := G.out.b.cells
                unfold Tok.cells at hl_1
                have hzl := G.out.lt
                cases sA with
                | true =>
                  have hr := HR.out
                  rw [if_pos (by have := HA.out; simpa using this.symm)] at hr
                  have HR := Lib.hid hr
                  clear hr
                  go_upto_region 15 with fail
                  go_region_with (first | (go_at_call 81; refine (refUnion_cls _ _ _ [cl, lo.ofUnit] (Bk.new w7 47 ([cl, lo.ofUnit].flatMap Cl.list).toArray) (by simp)).mono ?_; rintro e w8 ⟨rfl, hb8⟩; have F8 := Lib.hid ((V7.out.f.alloc _).step hb8); clear hb8; have hc8_1 := F8.out.b.cells; simp only [Cl.cells] at hc8_1; have hc8_2 := F8.out.b.frozens; unfold Cl.v) | (go_at_call 82; refine (classOf_any lo _ u2 u3 u4).mono ?_; rintro e w7 ⟨rfl, hb7⟩; have V7 := Lib.hid ((G.out.drewN _).step hb7); clear hb7; have hc7_1 := V7.out.f.b.cells; simp only [Cl.cells] at hc7_1; unfold Cl.v))
                  all_goals
                    go_wp2_with fail
                    have F9 := F8.out.putc (Cl.union [cl, lo.ofUnit])
                    simp only [setN, Cl.list, Nat.reduceAdd] at F9
                    exact ⟨⟨m1, f, u + 1, Cl.union [cl, lo.ofUnit], rfl, rfl, by omega, by omega, hm1l, F9, by omega, by rw [decide_eq_false (by omega)]; exact HR.out⟩, by simp only [intOf]; omega⟩
                | false =>
                  have hcond : ¬ (byteAt p (m1 + 1) < 0 ∨ byteAt p m1 ≠ 45 ∨ byteAt p (m1 + 1) = 93) := by have := HA.out; simpa using this.symm
                  have hr := HR.out
                  rw [if_neg hcond] at hr
                  have hq2 : m1 + 1 < p.length := byteAt_pos p (m1 + 1) (by omega)
                  obtain ⟨m2, hm2⟩ : ∃ m2, m2 = m1 + 1 := ⟨_, rfl⟩
                  have hvm : (m1 : Int) + 1 = (m2 : Int) := by omega
                  rw [← hm2] at hr hq2
                  rw [show (m1 : Int) + 1 = (m2 : Int) from by omega] at hr
                  have HM2 := Lib.hid hm2
                  have G2 := G
                  clear hcond hm2
                  rcases hun : unitM p m2 with _ | ⟨hi, m3⟩
                  · rw [hun] at hr
                    have HR := Lib.hid hr
                    have HUN2 := Lib.hid hun
                    clear hr hun
                    go_wp2_with (go_at_call 80; refine (runit_any _ (some ad) c p m2 (G2.out.f.rd HRW.out) hs hq2).mono ?_; rintro e w6 ⟨rfl, hb⟩; have F6 := Lib.hid (G2.out.step hb); clear hb; rw [HUN2.out]; have hz6_1 := fun o => (F6.out.alloc o).f.z.1.cells; simp only [z_cells] at hz6_1; have hz6_2 := fun o => (F6.out.alloc o).f.z.1.frozens; simp only [rtok, rend, Tok.v, Tok.zero, Cl.zero])
                    have FE := fun o => (F6.out.alloc o).f.fin Tok.zero
                    simp only [setN, Tok.list, Tok.zero, Cl.zero, Nat.reduceAdd] at FE
                    refine HQ.out _ _ ?_
                    refine tok_three (t := Tok.zero) rfl (FE _).1 rfl rfl rfl ⟨?_, (FE _).2⟩
                    rw [← HR.out]
                    exact ⟨rfl, by decide⟩
                  · rw [hun] at hr
                    dsimp only at hr
                    obtain ⟨v1, v2, v3, v4⟩ := unitM_facts p m2 hi m3 hq2 hun
                    have hm3l : m3 ≤ p.length := unitM_le p m2 hi m3 hq2 hun
                    have hm3i : ¬ (m3 : Int) = 0 := by omega
                    have hm3b : ((m3 : Int) == 0) = false := beq_eq_false_iff_ne.2 hm3i
                    have HR := Lib.hid hr
                    have HUN2 := Lib.hid hun
                    clear hr hun
                    go_upto_region 19 with (go_at_call 80; refine (runit_any _ (some ad) c p m2 (G2.out.f.rd HRW.out) hs hq2).mono ?_; rintro e w6 ⟨rfl, hb⟩; have F6 := Lib.hid (G2.out.step hb); clear hb; rw [HUN2.out]; have hz6_1 := fun o => (F6.out.alloc o).f.z.1.cells; simp only [z_cells] at hz6_1; have hz6_2 := fun o => (F6.out.alloc o).f.z.1.frozens; simp only [rtok, rend, Tok.v])
                    have FV := Lib.hid (R4.new F6.out hi)
                    go_cut [107] from 31 to 118 (fun s wx => s = .bool (decide (lo.kind ≠ 1 ∨ hi.kind ≠ 1 ∨ lo.byte > hi.byte)) ∧ R4 w wx cl zl lo w6.heap.size hi)
                    case first =>
                      have hh_1 := FV.out.b.cells
                      have hl6_1 := FV.out.f.b.cells
                      unfold Tok.cells at hh_1 hl6_1
                      by_cases e1 : lo.kind = 1
                      · have f1 : (lo.kind != 1) = false := by simp [e1]
                        by_cases e2 : hi.kind = 1
                        · have f2 : (hi.kind != 1) = false := by simp [e2]
                          have HD := Lib.hid (show decide (lo.kind ≠ 1 ∨ hi.kind ≠ 1 ∨ lo.byte > hi.byte) = decide (hi.byte < lo.byte) by simp [e1, e2])
                          clear e1 e2
                          go_wp2_with fail
                          go_meet
                          exact ⟨by rw [HD.out], FV.out⟩
                        · have f2 : (hi.kind != 1) = true := by simpa using e2
                          have HD := Lib.hid (show decide (lo.kind ≠ 1 ∨ hi.kind ≠ 1 ∨ lo.byte > hi.byte) = true by simp [e2])
                          clear e1 e2
                          go_wp2_with fail
                          go_meet
                          exact ⟨by rw [HD.out], FV.out⟩
                      · have f1 : (lo.kind != 1) = true := by simpa using e1
                        have HD := Lib.hid (show decide (lo.kind ≠ 1 ∨ hi.kind ≠ 1 ∨ lo.byte > hi.byte) = true by simp [e1])
                        clear e1
                        go_wp2_with fail
                        go_meet
                        exact ⟨by rw [HD.out], FV.out⟩
                    case rest =>
                      obtain ⟨rfl, hV⟩ := hcut
                      generalize w6.heap.size = zh at *
                      have V := Lib.hid hV
                      clear hV FV F6 hz6_1 hz6_2 G G2 hz_1 hz_2 hc_1 hc_2 hl_1
                      have hz_1 := V.out.f.f.z.1.cells
                      rw [z_cells] at hz_1
                      have hz_2 := V.out.f.f.z.1.frozens
                      have hc_1 := V.out.f.f.b.cells
                      simp only [Cl.cells] at hc_1
                      have hzh := V.out.lt
                      by_cases hbad : lo.kind ≠ 1 ∨ hi.kind ≠ 1 ∨ lo.byte > hi.byte
                      · have hr := HR.out
                        rw [if_pos hbad] at hr
                        have HR := Lib.hid hr
                        rw [decide_eq_true hbad]
                        clear hr hbad
                        go_wp2
                        have FE := V.out.f.f.fin Tok.zero
                        simp only [setN, Tok.list, Tok.zero, Cl.zero, Nat.reduceAdd] at FE
                        refine HQ.out _ _ ?_
                        refine tok_three (t := Tok.zero) rfl FE.1 rfl rfl rfl ⟨?_, FE.2⟩
                        rw [← HR.out]
                        exact ⟨rfl, by decide⟩
                      · have hr := HR.out
                        rw [if_neg hbad] at hr
                        have HR := Lib.hid hr
                        rw [decide_eq_false hbad]
                        clear hr hbad
                        go_upto_region 21 with fail
                        have S1 : wc.cell? ⟨zl, 1, none⟩ = some (.int .u8 lo.byte) := cell_of V.out.f.b 1 _ rfl
                        have S2 : wc.cell? ⟨zh, 1, none⟩ = some (.int .u8 hi.byte) := cell_of V.out.b 1 _ rfl
                        have S3 : wc.drew.cell? ⟨zl, 1, none⟩ = some (.int .u8 lo.byte) := S1
                        have S4 : wc.drew.cell? ⟨zh, 1, none⟩ = some (.int .u8 hi.byte) := S2
                        have n1 : zl ≠ w.heap.size + 1 := by omega
                        have n2 : zh ≠ w.heap.size + 1 := by omega
                        go_region_with (first | (go_at_call 81; refine (refUnion_cls _ _ _ [cl, Cl.range lo.byte hi.byte] (Bk.new w7 47 ([cl, Cl.range lo.byte hi.byte].flatMap Cl.list).toArray) (by simp)).mono ?_; rintro e w8 ⟨rfl, hb8⟩; have F8 := Lib.hid ((V7.out.f.f.alloc _).step hb8); have hc8_1 := F8.out.b.cells; simp only [Cl.cells] at hc8_1; have hc8_2 := F8.out.b.frozens; have c8a := cell_keep hb8 (Lib.cell?_alloc_some _ c7a); have c8b := cell_keep hb8 (Lib.cell?_alloc_some _ c7b); unfold Cl.v) | (go_at_call 83; refine (refRange_cls _ lo.byte hi.byte (by omega) (by omega) (by omega) (by omega)).mono ?_; rintro e w7 ⟨rfl, hb7⟩; have c7a := cell_keep hb7 S3; have c7b := cell_keep hb7 S4; have V7 := Lib.hid ((V.out.drewN _).step hb7); have hc7_1 := V7.out.f.f.b.cells; simp only [Cl.cells] at hc7_1; unfold Cl.v))
                        all_goals
                          go_wp2
                          have F9 := F8.out.putc (Cl.union [cl, Cl.range lo.byte hi.byte])
                          simp only [setN, Cl.list, Nat.reduceAdd] at F9
                          have hm2' := HM2.out
                          exact ⟨⟨m3, f, u + 1, Cl.union [cl, Cl.range lo.byte hi.byte], rfl, rfl, by omega, by omega, by omega, F9, by omega, by rw [decide_eq_false (by omega)]; exact HR.out⟩, by simp only [intOf]; omega⟩
        · rw [if_pos (by rw [byteAt_ge p m (by omega)]; decide)] at hr
          have hge : p.length ≤ m := by omega
          have HR := Lib.hid hr
          clear hr hF
          go_wp2
          go_quiet (fail)
          go_wp2
          have FE := fun i => (F.out.drewN i).fin Tok.zero
          simp only [setN, Tok.list, Tok.zero, Cl.zero, Nat.reduceAdd] at FE
          refine HQ.out _ _ ?_
          refine tok_three (t := Tok.zero) rfl (FE _).1 rfl rfl rfl ⟨?_, (FE _).2⟩
          rw [← HR.out]
          exact ⟨rfl, by decide⟩
end Go.Proofs.Ytkfjnllbjlndlaa
