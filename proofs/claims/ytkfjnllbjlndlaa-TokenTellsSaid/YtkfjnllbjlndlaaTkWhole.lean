/- The law TokenWhole, walked: it answers true. -/
import Derived.Test.YtkfjnllbjlndlaaTkLexes
import Derived.Test.YtkfjnllbjlndlaaTkSame
import Derived.Test.YtkfjnllbjlndlaaTkRow
import Derived.Test.YtkfjnllbjlndlaaTwP
namespace Go.Proofs.Ytkfjnllbjlndlaa
open Go.RowKit

theorem row_le {k : IntKind} {w : World} {a : Option Addr} {len cap : Nat} {zs : List Int} (h : IsRow k w a len cap zs) : len ≤ cap := by
  rcases h with ⟨_, rfl, rfl, _⟩ | ⟨_, _, h1, _⟩
  · exact Nat.le_refl _
  · exact h1

theorem toksM_done (p : List UInt8) : ∀ (n k : Nat), p.length - k ≤ n → k ≤ p.length → (toksM p p.length k).2.2 = none → (toksM p p.length k).2.1 = p.length
  | 0, k, hn, hk, _ => by rw [toksM_end p _ k (by omega)]; simp only; omega
  | n + 1, k, hn, hk, hT => by
    by_cases hl : p.length ≤ k
    · rw [toksM_end p _ k hl]; simp only; omega
    · rcases ho : oneM p k with ⟨t1, k1⟩ | ⟨a, e⟩
      · have h1 := oneM_ok p k t1 k1 (by omega) ho
        rw [toksM_ok p k k1 t1 (by omega) ho] at hT ⊢
        exact toksM_done p n k1 (by omega) h1.2.1 hT
      · rw [toksM_bad p k a e (by omega) ho] at hT; simp at hT

theorem lexR_whole (p : List UInt8) (h : (lexR p).2.2 = 0) : p.length ≤ 1024 ∧ (lexR p).2.1 = (p.length : Int) ∧ (lexR p).1 = (toksM p p.length 0).1 ∧ (toksM p p.length 0).2.2 = none := by
  unfold lexR at h ⊢
  split at h
  · simp at h
  · rename_i hl
    rcases hT : (toksA p).2.2 with _ | ⟨a, e⟩
    · rw [if_neg hl]
      have h2 : (toksM p p.length 0).2.2 = none := hT
      exact ⟨by omega, by rw [← toksM_done p p.length 0 (by omega) (by omega) h2]; rfl, rfl, h2⟩
    · rw [hT] at h
      exact absurd h (toksA_bad p a e hT)

theorem toks_none (p : List UInt8) (h : (toksM p p.length 0).2.2 = none) : (toksM p p.length 0).1.length = 0 ↔ p.length = 0 := by
  constructor
  · intro hn
    rcases Nat.eq_zero_or_pos p.length with h0 | h0
    · exact h0
    · exfalso
      rcases ho : oneM p 0 with ⟨t1, k1⟩ | ⟨a, e⟩
      · rw [toksM_ok p 0 k1 t1 h0 ho] at hn; simp at hn
      · rw [toksM_bad p 0 a e h0 ho] at h; simp at h
  · intro hn
    rw [toksM_end p _ 0 (by omega)]; rfl

set_option maxRecDepth 100000 in
set_option maxHeartbeats 2000000 in
theorem tokenWhole_any (w : World) (A : Option Addr) (c : Nat) (p : List UInt8) (hc : p.length ≤ c) (hr : RdB w w.heap.size A p) :
    Calls Try.prog 5 #[.slice A p.length c] w fun e w' => e = .returned (.bool true) ∧ Below w.heap.size w w' := by
  have HR := Lib.hid hr
  have HC := Lib.hid hc
  clear hr
  obtain ⟨E, hE⟩ : ∃ E, (lexR p).2.2 = E := ⟨_, rfl⟩
  by_cases hE0 : E = 0
  · subst hE0
    obtain ⟨hs, h1, h2, h3⟩ := lexR_whole p hE
    obtain ⟨L, hL⟩ : ∃ L, (toksM p p.length 0).1 = L := ⟨_, rfl⟩
    have hch := toksM_chain p p.length 0 (by omega) (by omega) h3
    have h0 := toks_none p h3
    rw [hL] at hch h0 h2
    have CH := Lib.hid hch
    have H0 := Lib.hid h0
    have hli : (L.length : Int) ≤ 1024 := by
      have h4 := lexR_length p
      rw [h2] at h4
      omega
    have HLI := Lib.hid hli
    clear hch h0 h3 hL hc hli
    go_enter Try.func5, Try.ntmps5
    by_cases hz : p.length = 0
    · have hp : p = [] := List.length_eq_zero_iff.1 hz
      have hlz : L = [] := List.length_eq_zero_iff.1 (H0.out.2 hz)
      subst hlz hp
      simp only [List.length_nil] at h1 ⊢
      go_wp2_with (first | (go_at_call 18; refine (tbegun_any _).mono ?_; rintro e w3 ⟨rfl, hb3⟩; have O1 := Lib.hid (own_below O1.out hb3); have HB1 := Lib.hid (below_keep HB1.out hb3 (Nat.le_refl _)); clear hb3) | (go_at_call 17; refine (lex_any _ A c [] HR.out).mono ?_; rintro e w1 ⟨⟨v1, rfl, ho1⟩, hb1⟩; rw [h1, hE]; rw [h2] at ho1; obtain ⟨A1, c1, rfl⟩ := own_slice ho1; have O1 := Lib.hid ho1; have HB1 := Lib.hid hb1; clear ho1 hb1))
      go_loopw [52] (fun q wr => q = .int .i64 0 ∧ Below w.heap.size w wr) (fun _ _ => 0)
      case atStart => exact ⟨rfl, HB1.out⟩
      case round =>
        obtain ⟨rfl, hb⟩ := hrel
        have HB := Lib.hid hb
        clear hb
        go_wp2
        go_ret
        exact ⟨rfl, HB.out⟩
    · have hzi : (p.length : Int) ≠ 0 := by omega
      have hn0 : 0 < L.length := Nat.pos_of_ne_zero (fun h => hz (H0.out.1 h))
      have hni : (L.length : Int) ≠ 0 := by omega
      have hzb : ((p.length : Int) == 0) = false := beq_eq_false_iff_ne.2 hzi
      have hnb : ((L.length : Int) == 0) = false := beq_eq_false_iff_ne.2 hni
      have hni2 : (0 : Int) < (L.length : Int) := by omega
      obtain ⟨t0, ht0⟩ : ∃ t, L[0] = t := ⟨_, rfl⟩
      have ha0 : t0.at_ = 0 := by
        obtain ⟨j, _, e1, _, _, e2, _⟩ := CH.out 0 t0 (by rw [List.getElem?_eq_getElem hn0, ht0])
        rw [e1, e2 rfl]; rfl
      go_wp2_with (first | (go_at_call 18; refine (tbegun_any _).mono ?_; rintro e w3 ⟨rfl, hb3⟩; have O1 := Lib.hid (own_below O1.out hb3); have HB1 := Lib.hid (below_keep HB1.out hb3 (Nat.le_refl _)); have hcc := Lib.hid (fun j u hj => add_off g j ▸ O1.out.cells (g := g) rfl j u hj : ∀ j u, (tcells L)[j]? = some u → w3.cell? ⟨g, j, none⟩ = some u); have c0 := (tok_at w3 g L 0 t0 hn0 ht0 hcc.out).2.2.2.2.2.2.2.2.2.2; rw [ha0] at c0; simp only [Nat.zero_mul, Nat.zero_add] at c0; clear hb3 hcc) | (go_at_call 17; refine (lex_any _ A c p HR.out).mono ?_; rintro e w1 ⟨⟨v1, rfl, ho1⟩, hb1⟩; rw [h1, hE]; rw [h2] at ho1; obtain ⟨g, cap, rfl, hgb, hgc⟩ := ho1.form hn0; have O1 := Lib.hid ho1; have HB1 := Lib.hid hb1; clear ho1 hb1))
      go_loopw [52] (fun q wr => ∃ k : Nat, q = .int .i64 k ∧ k ≤ L.length ∧ wr.ownsRow w.heap.size 49 11 (.slice (some ⟨g, 0, none⟩) L.length cap) L.length (tcells L) ∧ Below w.heap.size w wr) (fun q _ => L.length - (intOf q).toNat)
      case atStart => exact ⟨0, rfl, by omega, O1.out, HB1.out⟩
      case round =>
        obtain ⟨k, rfl, hk, ho, hb⟩ := hrel
        have HO := Lib.hid ho
        have HB := Lib.hid hb
        have HLI2 := HLI.out
        clear ho hb O1 HB1 c0
        by_cases hlt : k < L.length
        · have hi1 : (k : Int) < (L.length : Int) := by omega
          have hi0 : (0 : Int) ≤ (k : Int) := by omega
          obtain ⟨t, ht⟩ : ∃ t, L[k] = t := ⟨_, rfl⟩
          obtain ⟨j, j', e1, e2, e3, _, e5⟩ := CH.out k t (by rw [List.getElem?_eq_getElem hlt, ht])
          have e4 := oneM_ok p j t j' e2 e3
          have hjlt : (j : Int) < (j' : Int) := by omega
          have hjl : (j' : Int) ≤ (p.length : Int) := by omega
          have HCC := Lib.hid (fun j u hj => add_off g j ▸ HO.out.cells (g := g) rfl j u hj : ∀ j u, (tcells L)[j]? = some u → wr.cell? ⟨g, j, none⟩ = some u)
          obtain ⟨p0, p1, p2, p3, p4, p5, p6, p7, p8, p9, p10⟩ := tok_at wr g L k t hlt ht HCC.out
          rw [e1] at p10
          obtain ⟨k1, hk1⟩ : ∃ k1, k1 = k + 1 := ⟨_, rfl⟩
          have hv1 : (k : Int) + 1 = (k1 : Int) := by omega
          have HK := Lib.hid hk1
          obtain ⟨i5, hi5, hz50, hz51, hz52⟩ := info_parts infoU8
          obtain ⟨A', c', hsl, hc', hrd⟩ := cut_lh (P := Try.prog) 29 5 Try.underlying29 hi5 hz51 .i64 .i64 A p c j j' (j : Int) (j' : Int) rfl rfl (by omega) (by omega) HC.out
          have pl := piece_lex p j j' t hs e2 e3
          obtain ⟨D, hD⟩ : ∃ D, sub p j j' = D := ⟨_, rfl⟩
          unfold sub at hD
          rw [hD] at hsl hrd hc'
          unfold sub at pl
          rw [hD] at pl
          have PL := Lib.hid pl
          have HRD := Lib.hid hrd
          have HC' := Lib.hid hc'
          have hgl : ¬ (j : Int) ≥ (j' : Int) := by omega
          have hgp : ¬ (j' : Int) > (p.length : Int) := by omega
          clear hc' hrd pl hD hk1 e4 e3 hs h1 h2
          by_cases hlast : k + 1 < L.length
          · have q := e5
            rw [List.getElem?_eq_getElem hlast] at q
            simp only at q
            obtain ⟨u, hu⟩ : ∃ t, L[k + 1] = t := ⟨_, rfl⟩
            rw [hu] at q
            have c1 := (tok_at wr g L (k + 1) u hlast hu HCC.out).2.2.2.2.2.2.2.2.2.2
            rw [q, HK.out.symm] at c1
            have hlz : (k : Int) < (L.length : Int) - 1 := by omega
            have hk1l : (k1 : Int) < (L.length : Int) := by omega
            have c1a := fun o => Lib.cell?_alloc_some o c1
            clear q hu e5 c1
            go_wp2_with fail
            refine (lex_any _ A' c' D (HRD.out _ _ (Reads.more (Reads.alloc (Reads.more (Reads.below HR.out HB.out) HB.out.size) (Nat.le_refl _) _) (by rw [World.size_alloc]; omega)))).mono ?_
            rintro e w1 ⟨⟨v1, rfl, ho1⟩, hb1⟩
            rw [PL.out] at ho1 ⊢
            simp only [List.length_singleton] at ho1 ⊢
            obtain ⟨g2, cap2, rfl, hg2, hc2⟩ := ho1.form (by omega)
            have O2 := Lib.hid ho1
            have B2 := Lib.hid hb1
            have TB := Lib.hid (Bk.kept (Bk.new wr 49 _) hb1)
            have q := tok_at w1 g2 [{ t with at_ := 0 }] 0 { t with at_ := 0 } (by simp) rfl (fun j u hj => add_off g2 j ▸ ho1.cells (g := g2) rfl j u hj)
            simp only [Nat.zero_mul, Nat.zero_add] at q
            obtain ⟨q0, q1, q2, q3, q4, q5, q6, q7, q8, q9, q10⟩ := q
            have tb := TB.out.cells
            clear ho1 hb1
            go_wp2
            have u0 : w1.cell? ⟨wr.heap.size, 0, none⟩ = some (.int .i64 t.kind) := cell_of TB.out 0 _ rfl
            have u1 : w1.cell? ⟨wr.heap.size, 1, none⟩ = some (.int .u8 t.byte) := cell_of TB.out 1 _ rfl
            have u2 : w1.cell? ⟨wr.heap.size, 2, none⟩ = some (.int .u64 t.cls.a) := cell_of TB.out 2 _ rfl
            have u3 : w1.cell? ⟨wr.heap.size, 3, none⟩ = some (.int .u64 t.cls.b) := cell_of TB.out 3 _ rfl
            have u4 : w1.cell? ⟨wr.heap.size, 4, none⟩ = some (.int .u64 t.cls.c) := cell_of TB.out 4 _ rfl
            have u5 : w1.cell? ⟨wr.heap.size, 5, none⟩ = some (.int .u64 t.cls.d) := cell_of TB.out 5 _ rfl
            have u6 : w1.cell? ⟨wr.heap.size, 6, none⟩ = some (.bool t.not_) := cell_of TB.out 6 _ rfl
            have u7 : w1.cell? ⟨wr.heap.size, 7, none⟩ = some (.int .i64 t.least) := cell_of TB.out 7 _ rfl
            have u8 : w1.cell? ⟨wr.heap.size, 8, none⟩ = some (.int .i64 t.most) := cell_of TB.out 8 _ rfl
            have u9 : w1.cell? ⟨wr.heap.size, 9, none⟩ = some (.bool t.lazy) := cell_of TB.out 9 _ rfl
            have u10 : w1.cell? ⟨wr.heap.size, 10, none⟩ = some (.int .i64 j) := cell_of TB.out 10 _ rfl
            have dq0 : w1.drew.cell? ⟨g2, 0, none⟩ = some (.int .i64 t.kind) := q0
            have dq1 : w1.drew.cell? ⟨g2, 1, none⟩ = some (.int .u8 t.byte) := q1
            have dq2 : w1.drew.cell? ⟨g2, 2, none⟩ = some (.int .u64 t.cls.a) := q2
            have dq3 : w1.drew.cell? ⟨g2, 3, none⟩ = some (.int .u64 t.cls.b) := q3
            have dq4 : w1.drew.cell? ⟨g2, 4, none⟩ = some (.int .u64 t.cls.c) := q4
            have dq5 : w1.drew.cell? ⟨g2, 5, none⟩ = some (.int .u64 t.cls.d) := q5
            have dq6 : w1.drew.cell? ⟨g2, 6, none⟩ = some (.bool t.not_) := q6
            have dq7 : w1.drew.cell? ⟨g2, 7, none⟩ = some (.int .i64 t.least) := q7
            have dq8 : w1.drew.cell? ⟨g2, 8, none⟩ = some (.int .i64 t.most) := q8
            have dq9 : w1.drew.cell? ⟨g2, 9, none⟩ = some (.bool t.lazy) := q9
            have dq10 : w1.drew.cell? ⟨g2, 10, none⟩ = some (.int .i64 0) := q10
            have du0 : w1.drew.cell? ⟨wr.heap.size, 0, none⟩ = some (.int .i64 t.kind) := u0
            have du1 : w1.drew.cell? ⟨wr.heap.size, 1, none⟩ = some (.int .u8 t.byte) := u1
            have du2 : w1.drew.cell? ⟨wr.heap.size, 2, none⟩ = some (.int .u64 t.cls.a) := u2
            have du3 : w1.drew.cell? ⟨wr.heap.size, 3, none⟩ = some (.int .u64 t.cls.b) := u3
            have du4 : w1.drew.cell? ⟨wr.heap.size, 4, none⟩ = some (.int .u64 t.cls.c) := u4
            have du5 : w1.drew.cell? ⟨wr.heap.size, 5, none⟩ = some (.int .u64 t.cls.d) := u5
            have du6 : w1.drew.cell? ⟨wr.heap.size, 6, none⟩ = some (.bool t.not_) := u6
            have du7 : w1.drew.cell? ⟨wr.heap.size, 7, none⟩ = some (.int .i64 t.least) := u7
            have du8 : w1.drew.cell? ⟨wr.heap.size, 8, none⟩ = some (.int .i64 t.most) := u8
            have du9 : w1.drew.cell? ⟨wr.heap.size, 9, none⟩ = some (.bool t.lazy) := u9
            have du10 : w1.drew.cell? ⟨wr.heap.size, 10, none⟩ = some (.int .i64 j) := u10
            clear tb
            have hsm := fun W => same_at W t 0
            simp only [Tok.v, e1] at hsm
            go_region_held3 (fun W => W.cell? ⟨g2, 0, none⟩ = some (.int .i64 t.kind) ∧ W.cell? ⟨g2, 1, none⟩ = some (.int .u8 t.byte) ∧ W.cell? ⟨g2, 2, none⟩ = some (.int .u64 t.cls.a) ∧ W.cell? ⟨g2, 3, none⟩ = some (.int .u64 t.cls.b) ∧ W.cell? ⟨g2, 4, none⟩ = some (.int .u64 t.cls.c) ∧ W.cell? ⟨g2, 5, none⟩ = some (.int .u64 t.cls.d) ∧ W.cell? ⟨g2, 6, none⟩ = some (.bool t.not_) ∧ W.cell? ⟨g2, 7, none⟩ = some (.int .i64 t.least) ∧ W.cell? ⟨g2, 8, none⟩ = some (.int .i64 t.most) ∧ W.cell? ⟨g2, 9, none⟩ = some (.bool t.lazy) ∧ W.cell? ⟨g2, 10, none⟩ = some (.int .i64 0) ∧ W.cell? ⟨wr.heap.size, 0, none⟩ = some (.int .i64 t.kind) ∧ W.cell? ⟨wr.heap.size, 1, none⟩ = some (.int .u8 t.byte) ∧ W.cell? ⟨wr.heap.size, 2, none⟩ = some (.int .u64 t.cls.a) ∧ W.cell? ⟨wr.heap.size, 3, none⟩ = some (.int .u64 t.cls.b) ∧ W.cell? ⟨wr.heap.size, 4, none⟩ = some (.int .u64 t.cls.c) ∧ W.cell? ⟨wr.heap.size, 5, none⟩ = some (.int .u64 t.cls.d) ∧ W.cell? ⟨wr.heap.size, 6, none⟩ = some (.bool t.not_) ∧ W.cell? ⟨wr.heap.size, 7, none⟩ = some (.int .i64 t.least) ∧ W.cell? ⟨wr.heap.size, 8, none⟩ = some (.int .i64 t.most) ∧ W.cell? ⟨wr.heap.size, 9, none⟩ = some (.bool t.lazy) ∧ W.cell? ⟨wr.heap.size, 10, none⟩ = some (.int .i64 j))
              ((go_split_ands; (repeat' apply And.intro) <;> first | with_reducible assumption | exact cell_keep hb4 (by with_reducible assumption)))
              (first | (go_at_call 19; refine (hsm _).mono ?_; rintro e w4 ⟨rfl, hb4⟩; have B4 := Lib.hid hb4))
            go_wp2
            have b1 : Below w.heap.size w w1 := below_then (HB.out.alloc HB.out.size _) B2.out (by have := HB.out.size; simp; omega)
            have o1 := own_below (HO.out.alloc _) B2.out
            have b4 : Below w1.heap.size w1 w4 := below_then (Below.drew (Below.refl _ _)) hb4 (Nat.le_refl _)
            exact ⟨⟨k1, rfl, by have := HK.out; omega, own_below o1 b4, below_then b1 b4 b1.size⟩, by simp only [intOf]; have := HK.out; omega⟩
          · have q := e5
            rw [List.getElem?_eq_none (by omega)] at q
            simp only at q
            have hlz : ¬ (k : Int) < (L.length : Int) - 1 := by omega
            clear e5
            subst q
            go_wp2_with fail
            refine (lex_any _ A' c' D (HRD.out _ _ (Reads.more (Reads.alloc (Reads.more (Reads.below HR.out HB.out) HB.out.size) (Nat.le_refl _) _) (by rw [World.size_alloc]; omega)))).mono ?_
            rintro e w1 ⟨⟨v1, rfl, ho1⟩, hb1⟩
            rw [PL.out] at ho1 ⊢
            simp only [List.length_singleton] at ho1 ⊢
            obtain ⟨g2, cap2, rfl, hg2, hc2⟩ := ho1.form (by omega)
            have O2 := Lib.hid ho1
            have B2 := Lib.hid hb1
            have TB := Lib.hid (Bk.kept (Bk.new wr 49 _) hb1)
            have q := tok_at w1 g2 [{ t with at_ := 0 }] 0 { t with at_ := 0 } (by simp) rfl (fun j u hj => add_off g2 j ▸ ho1.cells (g := g2) rfl j u hj)
            simp only [Nat.zero_mul, Nat.zero_add] at q
            obtain ⟨q0, q1, q2, q3, q4, q5, q6, q7, q8, q9, q10⟩ := q
            have tb := TB.out.cells
            clear ho1 hb1
            go_wp2
            have u0 : w1.cell? ⟨wr.heap.size, 0, none⟩ = some (.int .i64 t.kind) := cell_of TB.out 0 _ rfl
            have u1 : w1.cell? ⟨wr.heap.size, 1, none⟩ = some (.int .u8 t.byte) := cell_of TB.out 1 _ rfl
            have u2 : w1.cell? ⟨wr.heap.size, 2, none⟩ = some (.int .u64 t.cls.a) := cell_of TB.out 2 _ rfl
            have u3 : w1.cell? ⟨wr.heap.size, 3, none⟩ = some (.int .u64 t.cls.b) := cell_of TB.out 3 _ rfl
            have u4 : w1.cell? ⟨wr.heap.size, 4, none⟩ = some (.int .u64 t.cls.c) := cell_of TB.out 4 _ rfl
            have u5 : w1.cell? ⟨wr.heap.size, 5, none⟩ = some (.int .u64 t.cls.d) := cell_of TB.out 5 _ rfl
            have u6 : w1.cell? ⟨wr.heap.size, 6, none⟩ = some (.bool t.not_) := cell_of TB.out 6 _ rfl
            have u7 : w1.cell? ⟨wr.heap.size, 7, none⟩ = some (.int .i64 t.least) := cell_of TB.out 7 _ rfl
            have u8 : w1.cell? ⟨wr.heap.size, 8, none⟩ = some (.int .i64 t.most) := cell_of TB.out 8 _ rfl
            have u9 : w1.cell? ⟨wr.heap.size, 9, none⟩ = some (.bool t.lazy) := cell_of TB.out 9 _ rfl
            have u10 : w1.cell? ⟨wr.heap.size, 10, none⟩ = some (.int .i64 j) := cell_of TB.out 10 _ rfl
            have dq0 : w1.drew.cell? ⟨g2, 0, none⟩ = some (.int .i64 t.kind) := q0
            have dq1 : w1.drew.cell? ⟨g2, 1, none⟩ = some (.int .u8 t.byte) := q1
            have dq2 : w1.drew.cell? ⟨g2, 2, none⟩ = some (.int .u64 t.cls.a) := q2
            have dq3 : w1.drew.cell? ⟨g2, 3, none⟩ = some (.int .u64 t.cls.b) := q3
            have dq4 : w1.drew.cell? ⟨g2, 4, none⟩ = some (.int .u64 t.cls.c) := q4
            have dq5 : w1.drew.cell? ⟨g2, 5, none⟩ = some (.int .u64 t.cls.d) := q5
            have dq6 : w1.drew.cell? ⟨g2, 6, none⟩ = some (.bool t.not_) := q6
            have dq7 : w1.drew.cell? ⟨g2, 7, none⟩ = some (.int .i64 t.least) := q7
            have dq8 : w1.drew.cell? ⟨g2, 8, none⟩ = some (.int .i64 t.most) := q8
            have dq9 : w1.drew.cell? ⟨g2, 9, none⟩ = some (.bool t.lazy) := q9
            have dq10 : w1.drew.cell? ⟨g2, 10, none⟩ = some (.int .i64 0) := q10
            have du0 : w1.drew.cell? ⟨wr.heap.size, 0, none⟩ = some (.int .i64 t.kind) := u0
            have du1 : w1.drew.cell? ⟨wr.heap.size, 1, none⟩ = some (.int .u8 t.byte) := u1
            have du2 : w1.drew.cell? ⟨wr.heap.size, 2, none⟩ = some (.int .u64 t.cls.a) := u2
            have du3 : w1.drew.cell? ⟨wr.heap.size, 3, none⟩ = some (.int .u64 t.cls.b) := u3
            have du4 : w1.drew.cell? ⟨wr.heap.size, 4, none⟩ = some (.int .u64 t.cls.c) := u4
            have du5 : w1.drew.cell? ⟨wr.heap.size, 5, none⟩ = some (.int .u64 t.cls.d) := u5
            have du6 : w1.drew.cell? ⟨wr.heap.size, 6, none⟩ = some (.bool t.not_) := u6
            have du7 : w1.drew.cell? ⟨wr.heap.size, 7, none⟩ = some (.int .i64 t.least) := u7
            have du8 : w1.drew.cell? ⟨wr.heap.size, 8, none⟩ = some (.int .i64 t.most) := u8
            have du9 : w1.drew.cell? ⟨wr.heap.size, 9, none⟩ = some (.bool t.lazy) := u9
            have du10 : w1.drew.cell? ⟨wr.heap.size, 10, none⟩ = some (.int .i64 j) := u10
            clear tb
            have hsm := fun W => same_at W t 0
            simp only [Tok.v, e1] at hsm
            go_region_held3 (fun W => W.cell? ⟨g2, 0, none⟩ = some (.int .i64 t.kind) ∧ W.cell? ⟨g2, 1, none⟩ = some (.int .u8 t.byte) ∧ W.cell? ⟨g2, 2, none⟩ = some (.int .u64 t.cls.a) ∧ W.cell? ⟨g2, 3, none⟩ = some (.int .u64 t.cls.b) ∧ W.cell? ⟨g2, 4, none⟩ = some (.int .u64 t.cls.c) ∧ W.cell? ⟨g2, 5, none⟩ = some (.int .u64 t.cls.d) ∧ W.cell? ⟨g2, 6, none⟩ = some (.bool t.not_) ∧ W.cell? ⟨g2, 7, none⟩ = some (.int .i64 t.least) ∧ W.cell? ⟨g2, 8, none⟩ = some (.int .i64 t.most) ∧ W.cell? ⟨g2, 9, none⟩ = some (.bool t.lazy) ∧ W.cell? ⟨g2, 10, none⟩ = some (.int .i64 0) ∧ W.cell? ⟨wr.heap.size, 0, none⟩ = some (.int .i64 t.kind) ∧ W.cell? ⟨wr.heap.size, 1, none⟩ = some (.int .u8 t.byte) ∧ W.cell? ⟨wr.heap.size, 2, none⟩ = some (.int .u64 t.cls.a) ∧ W.cell? ⟨wr.heap.size, 3, none⟩ = some (.int .u64 t.cls.b) ∧ W.cell? ⟨wr.heap.size, 4, none⟩ = some (.int .u64 t.cls.c) ∧ W.cell? ⟨wr.heap.size, 5, none⟩ = some (.int .u64 t.cls.d) ∧ W.cell? ⟨wr.heap.size, 6, none⟩ = some (.bool t.not_) ∧ W.cell? ⟨wr.heap.size, 7, none⟩ = some (.int .i64 t.least) ∧ W.cell? ⟨wr.heap.size, 8, none⟩ = some (.int .i64 t.most) ∧ W.cell? ⟨wr.heap.size, 9, none⟩ = some (.bool t.lazy) ∧ W.cell? ⟨wr.heap.size, 10, none⟩ = some (.int .i64 j))
              ((go_split_ands; (repeat' apply And.intro) <;> first | with_reducible assumption | exact cell_keep hb4 (by with_reducible assumption)))
              (first | (go_at_call 19; refine (hsm _).mono ?_; rintro e w4 ⟨rfl, hb4⟩; have B4 := Lib.hid hb4))
            go_wp2
            have b1 : Below w.heap.size w w1 := below_then (HB.out.alloc HB.out.size _) B2.out (by have := HB.out.size; simp; omega)
            have o1 := own_below (HO.out.alloc _) B2.out
            have b4 : Below w1.heap.size w1 w4 := below_then (Below.drew (Below.refl _ _)) hb4 (Nat.le_refl _)
            exact ⟨⟨k1, rfl, by have := HK.out; omega, own_below o1 b4, below_then b1 b4 b1.size⟩, by simp only [intOf]; have := HK.out; omega⟩
        · have hn2 : ¬ (k : Int) < (L.length : Int) := by omega
          go_wp2
          go_ret
          exact ⟨rfl, HB.out⟩
  · go_enter Try.func5, Try.ntmps5
    go_wp2_with (first | (go_at_call 18; refine (tbegun_any _).mono ?_; rintro e w3 ⟨rfl, hb3⟩; have HB1 := Lib.hid (below_keep HB1.out hb3 (Nat.le_refl _)); clear hb3) | (go_at_call 17; refine (lex_any _ A c p HR.out).mono ?_; rintro e w1 ⟨⟨v1, rfl, ho1⟩, hb1⟩; have HB1 := Lib.hid hb1; clear ho1 hb1; rw [hE]))
    go_ret
    exact ⟨rfl, HB1.out⟩
end Go.Proofs.Ytkfjnllbjlndlaa
