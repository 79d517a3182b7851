/- The lexer's escape: what is no class; the whole. -/
import Derived.Test.YtkfjnllbjlndlaaLxC
namespace Go.Proofs.Ytkfjnllbjlndlaa
open Go.RowKit

theorem TokRes.out {w' : World} {g B : Nat} {A : Option Addr} {c : Nat} {p : List UInt8} {o : Option (Tok × Nat)} {e : Ending} (h : TokRes w' g B A c p o e) :
    ∃ (t : Tok) (k' : Nat) (b : Bool), e = .returned (.tuple #[t.v, .bool b]) ∧ Lx w' g B A c p k' ∧ o = if b then some (t, k') else none := by
  cases o with
  | some r => exact ⟨r.1, r.2, true, h.1, h.2, rfl⟩
  | none => obtain ⟨t, k', h1, h2⟩ := h; exact ⟨t, k', false, h1, h2, rfl⟩

set_option maxRecDepth 100000 in
set_option maxHeartbeats 400000 in
theorem esc_110 (w : World) (g B : Nat) (A : Option Addr) (c : Nat) (p : List UInt8) (k : Nat) (h : Lx w g B A c p k) (x : Int) (hx : ∃ h : k < p.length, (p[k].toNat : Int) = x) (hc : x = 110) :
    Calls Try.prog 43 #[.pointer (some ⟨g, 0, none⟩)] w fun e w' => TokRes w' g B A c p (escM p k) e ∧ Only g w w' := by
  have H := Lib.hid h
  have hs := h.small
  have hk := h.at_
  have hne := h.x.lt
  have hk' : k < p.length := hx.1
  have hkB := Lib.hid hx
  obtain ⟨hx0, hx1⟩ : 0 ≤ x ∧ x ≤ 255 := by obtain ⟨h1, h2⟩ := hx; have := (p[k]).toNat_lt; omega
  obtain ⟨ad, rfl⟩ : ∃ ad, A = some ad := by obtain ⟨ad, e, _⟩ := h.r.at_ hk'; exact ⟨ad, e⟩
  have HD := Lib.hid (show decide (k + 0 < p.length) = true by simpa using hk')
  have hM := Lib.hid (escM_at p k x (by obtain ⟨h1, h2⟩ := hx; rw [byteAt_lt p k h1, h2]))
  obtain ⟨k1, hk1⟩ : ∃ k1, k1 = k + 1 := ⟨_, rfl⟩
  have hw1 : IntKind.i64.wrap ((k : Int) + 1) = (k1 : Int) := by rw [wrap_id _ (by omega) (by omega)]; omega
  have HK := Lib.hid hk1
  clear hk1 h hx
  subst hc
  have hor : bits .or .u8 110 32 = 110 := by decide
  go_enter Try.func43, Try.ntmps43
  go_wp2
  apply wp_scope_forward 0
  · rfl
  go_wp2_with (go_at_call 42; refine (more_lit _ g B (some ad) c p k 0 true (H.out.alloc _) (by omega) HD.out).mono ?_; rintro e w1 ⟨rfl, hw⟩; have F := (Fr.new H.out Tok.zero.cells).quiet hw; clear hw; have hc1 := F.l.x.cells; have hf1 := F.l.x.frozens; have hb0' := F.l.r.cell_ hkB.out; have FF := Lib.hid F; clear F)
  go_quiet (fail)
  go_wp2_with (first | (go_at_call 53; refine (digit_cls _).mono ?_; rintro e w2 ⟨rfl, hb⟩; have F2 := Lib.hid (((FF.out.drewN _).step k1 (by have := HK.out; omega)).kept hb); have hz1 := fun o => (F2.out.z.alloc o).cells; simp only [Tok.cells, Tok.zero, Cl.zero] at hz1; have hz2 := fun o => (F2.out.z.alloc o).frozens; have GG := Lib.hid (Fc.new F2.out Cl.digit); clear hb; unfold Cl.v))
  apply wp_goto
  refine And.intro rfl ?_
  show Code.wp _ _ _ _ _
  go_wp2_with (first | fail)
  have FE := GG.out.f.fin (t := Tok.ofByte 10)
  simp only [setN, Tok.list, Tok.ofByte, Tok.zero, Cl.zero, Cl.cells, Nat.reduceAdd] at FE
  rw [Exit.noGoto_ret]
  refine tok_end rfl FE.z rfl rfl ⟨?_, FE.o⟩
  refine TokRes.mk_ ?_ FE.l
  rw [hM.out, HK.out]
  rfl

set_option maxRecDepth 100000 in
set_option maxHeartbeats 400000 in
theorem esc_114 (w : World) (g B : Nat) (A : Option Addr) (c : Nat) (p : List UInt8) (k : Nat) (h : Lx w g B A c p k) (x : Int) (hx : ∃ h : k < p.length, (p[k].toNat : Int) = x) (hc : x = 114) :
    Calls Try.prog 43 #[.pointer (some ⟨g, 0, none⟩)] w fun e w' => TokRes w' g B A c p (escM p k) e ∧ Only g w w' := by
  have H := Lib.hid h
  have hs := h.small
  have hk := h.at_
  have hne := h.x.lt
  have hk' : k < p.length := hx.1
  have hkB := Lib.hid hx
  obtain ⟨hx0, hx1⟩ : 0 ≤ x ∧ x ≤ 255 := by obtain ⟨h1, h2⟩ := hx; have := (p[k]).toNat_lt; omega
  obtain ⟨ad, rfl⟩ : ∃ ad, A = some ad := by obtain ⟨ad, e, _⟩ := h.r.at_ hk'; exact ⟨ad, e⟩
  have HD := Lib.hid (show decide (k + 0 < p.length) = true by simpa using hk')
  have hM := Lib.hid (escM_at p k x (by obtain ⟨h1, h2⟩ := hx; rw [byteAt_lt p k h1, h2]))
  obtain ⟨k1, hk1⟩ : ∃ k1, k1 = k + 1 := ⟨_, rfl⟩
  have hw1 : IntKind.i64.wrap ((k : Int) + 1) = (k1 : Int) := by rw [wrap_id _ (by omega) (by omega)]; omega
  have HK := Lib.hid hk1
  clear hk1 h hx
  subst hc
  have hor : bits .or .u8 114 32 = 114 := by decide
  go_enter Try.func43, Try.ntmps43
  go_wp2
  apply wp_scope_forward 0
  · rfl
  go_wp2_with (go_at_call 42; refine (more_lit _ g B (some ad) c p k 0 true (H.out.alloc _) (by omega) HD.out).mono ?_; rintro e w1 ⟨rfl, hw⟩; have F := (Fr.new H.out Tok.zero.cells).quiet hw; clear hw; have hc1 := F.l.x.cells; have hf1 := F.l.x.frozens; have hb0' := F.l.r.cell_ hkB.out; have FF := Lib.hid F; clear F)
  go_quiet (fail)
  go_wp2_with (first | (go_at_call 53; refine (digit_cls _).mono ?_; rintro e w2 ⟨rfl, hb⟩; have F2 := Lib.hid (((FF.out.drewN _).step k1 (by have := HK.out; omega)).kept hb); have hz1 := fun o => (F2.out.z.alloc o).cells; simp only [Tok.cells, Tok.zero, Cl.zero] at hz1; have hz2 := fun o => (F2.out.z.alloc o).frozens; have GG := Lib.hid (Fc.new F2.out Cl.digit); clear hb; unfold Cl.v))
  apply wp_goto
  refine And.intro rfl ?_
  show Code.wp _ _ _ _ _
  go_wp2_with (first | fail)
  have FE := GG.out.f.fin (t := Tok.ofByte 13)
  simp only [setN, Tok.list, Tok.ofByte, Tok.zero, Cl.zero, Cl.cells, Nat.reduceAdd] at FE
  rw [Exit.noGoto_ret]
  refine tok_end rfl FE.z rfl rfl ⟨?_, FE.o⟩
  refine TokRes.mk_ ?_ FE.l
  rw [hM.out, HK.out]
  rfl

set_option maxRecDepth 100000 in
set_option maxHeartbeats 400000 in
theorem esc_116 (w : World) (g B : Nat) (A : Option Addr) (c : Nat) (p : List UInt8) (k : Nat) (h : Lx w g B A c p k) (x : Int) (hx : ∃ h : k < p.length, (p[k].toNat : Int) = x) (hc : x = 116) :
    Calls Try.prog 43 #[.pointer (some ⟨g, 0, none⟩)] w fun e w' => TokRes w' g B A c p (escM p k) e ∧ Only g w w' := by
  have H := Lib.hid h
  have hs := h.small
  have hk := h.at_
  have hne := h.x.lt
  have hk' : k < p.length := hx.1
  have hkB := Lib.hid hx
  obtain ⟨hx0, hx1⟩ : 0 ≤ x ∧ x ≤ 255 := by obtain ⟨h1, h2⟩ := hx; have := (p[k]).toNat_lt; omega
  obtain ⟨ad, rfl⟩ : ∃ ad, A = some ad := by obtain ⟨ad, e, _⟩ := h.r.at_ hk'; exact ⟨ad, e⟩
  have HD := Lib.hid (show decide (k + 0 < p.length) = true by simpa using hk')
  have hM := Lib.hid (escM_at p k x (by obtain ⟨h1, h2⟩ := hx; rw [byteAt_lt p k h1, h2]))
  obtain ⟨k1, hk1⟩ : ∃ k1, k1 = k + 1 := ⟨_, rfl⟩
  have hw1 : IntKind.i64.wrap ((k : Int) + 1) = (k1 : Int) := by rw [wrap_id _ (by omega) (by omega)]; omega
  have HK := Lib.hid hk1
  clear hk1 h hx
  subst hc
  have hor : bits .or .u8 116 32 = 116 := by decide
  go_enter Try.func43, Try.ntmps43
  go_wp2
  apply wp_scope_forward 0
  · rfl
  go_wp2_with (go_at_call 42; refine (more_lit _ g B (some ad) c p k 0 true (H.out.alloc _) (by omega) HD.out).mono ?_; rintro e w1 ⟨rfl, hw⟩; have F := (Fr.new H.out Tok.zero.cells).quiet hw; clear hw; have hc1 := F.l.x.cells; have hf1 := F.l.x.frozens; have hb0' := F.l.r.cell_ hkB.out; have FF := Lib.hid F; clear F)
  go_quiet (fail)
  go_wp2_with (first | (go_at_call 53; refine (digit_cls _).mono ?_; rintro e w2 ⟨rfl, hb⟩; have F2 := Lib.hid (((FF.out.drewN _).step k1 (by have := HK.out; omega)).kept hb); have hz1 := fun o => (F2.out.z.alloc o).cells; simp only [Tok.cells, Tok.zero, Cl.zero] at hz1; have hz2 := fun o => (F2.out.z.alloc o).frozens; have GG := Lib.hid (Fc.new F2.out Cl.digit); clear hb; unfold Cl.v))
  apply wp_goto
  refine And.intro rfl ?_
  show Code.wp _ _ _ _ _
  go_wp2_with (first | fail)
  have FE := GG.out.f.fin (t := Tok.ofByte 9)
  simp only [setN, Tok.list, Tok.ofByte, Tok.zero, Cl.zero, Cl.cells, Nat.reduceAdd] at FE
  rw [Exit.noGoto_ret]
  refine tok_end rfl FE.z rfl rfl ⟨?_, FE.o⟩
  refine TokRes.mk_ ?_ FE.l
  rw [hM.out, HK.out]
  rfl

set_option maxRecDepth 100000 in
set_option maxHeartbeats 400000 in
theorem esc_let (w : World) (g B : Nat) (A : Option Addr) (c : Nat) (p : List UInt8) (k : Nat) (h : Lx w g B A c p k) (x : Int) (hx : ∃ h : k < p.length, (p[k].toNat : Int) = x) (h1 : x ≠ 100 ∧ x ≠ 119 ∧ x ≠ 115 ∧ x ≠ 68 ∧ x ≠ 87 ∧ x ≠ 83) (h2 : x ≠ 110 ∧ x ≠ 114 ∧ x ≠ 116 ∧ x ≠ 120) (h3 : letM x = true) :
    Calls Try.prog 43 #[.pointer (some ⟨g, 0, none⟩)] w fun e w' => TokRes w' g B A c p (escM p k) e ∧ Only g w w' := by
  have H := Lib.hid h
  have hs := h.small
  have hk := h.at_
  have hne := h.x.lt
  have hk' : k < p.length := hx.1
  have hkB := Lib.hid hx
  obtain ⟨hx0, hx1⟩ : 0 ≤ x ∧ x ≤ 255 := by obtain ⟨h1, h2⟩ := hx; have := (p[k]).toNat_lt; omega
  obtain ⟨ad, rfl⟩ : ∃ ad, A = some ad := by obtain ⟨ad, e, _⟩ := h.r.at_ hk'; exact ⟨ad, e⟩
  have HD := Lib.hid (show decide (k + 0 < p.length) = true by simpa using hk')
  have hM := Lib.hid (escM_at p k x (by obtain ⟨h1, h2⟩ := hx; rw [byteAt_lt p k h1, h2]))
  obtain ⟨k1, hk1⟩ : ∃ k1, k1 = k + 1 := ⟨_, rfl⟩
  have hw1 : IntKind.i64.wrap ((k : Int) + 1) = (k1 : Int) := by rw [wrap_id _ (by omega) (by omega)]; omega
  have HK := Lib.hid hk1
  clear hk1 h hx
  have ho := or32 x hx0 hx1
  have n1 : ¬ bits .or .u8 x 32 = 100 := by omega
  have n2 : ¬ bits .or .u8 x 32 = 119 := by omega
  have n3 : ¬ bits .or .u8 x 32 = 115 := by omega
  have hE := Lib.hid (show escM p k = if letM x || digM x then none else some (Tok.ofByte x, k + 1) by rw [hM.out, if_neg (by omega), if_neg (by omega), if_neg (by omega), if_neg (by omega), if_neg (by omega), if_neg (by omega), if_neg (by omega), if_neg (by omega), if_neg (by omega), if_neg (by omega), if_neg (by omega)])
  clear hM
  have hM := hE
  clear hE
  obtain ⟨_, _, _, _, _, _⟩ := h1
  obtain ⟨_, _, _, _⟩ := h2
  clear ho
  have H3 := Lib.hid h3
  clear h3
  go_enter Try.func43, Try.ntmps43
  go_wp2
  apply wp_scope_forward 0
  · rfl
  go_wp2_with (go_at_call 42; refine (more_lit _ g B (some ad) c p k 0 true (H.out.alloc _) (by omega) HD.out).mono ?_; rintro e w1 ⟨rfl, hw⟩; have F := (Fr.new H.out Tok.zero.cells).quiet hw; clear hw; have hc1 := F.l.x.cells; have hf1 := F.l.x.frozens; have hb0' := F.l.r.cell_ hkB.out; have FF := Lib.hid F; clear F)
  go_quiet (fail)
  go_wp2_with (first | (go_at_call 53; refine (digit_cls _).mono ?_; rintro e w2 ⟨rfl, hb⟩; have F2 := Lib.hid (((FF.out.drewN _).step k1 (by have := HK.out; omega)).kept hb); have hz1 := fun o => (F2.out.z.alloc o).cells; simp only [Tok.cells, Tok.zero, Cl.zero] at hz1; have hz2 := fun o => (F2.out.z.alloc o).frozens; have GG := Lib.hid (Fc.new F2.out Cl.digit); clear hb; unfold Cl.v))
  apply wp_goto
  refine And.intro rfl ?_
  show Code.wp _ _ _ _ _
  go_wp2_with (first | (go_at_call 56; refine (let_lit _ true _ (by omega) (by omega) (H3.out)).mono ?_; rintro e w3 ⟨rfl, rfl⟩))
  have FE := GG.out.f.fin (t := Tok.zero)
  simp only [setN, Tok.list, Tok.zero, Cl.zero, Cl.cells, Nat.reduceAdd] at FE
  rw [Exit.noGoto_ret]
  refine tok_end rfl FE.z rfl rfl ⟨?_, FE.o⟩
  refine TokRes.mk_ ?_ FE.l
  rw [hM.out, HK.out]
  simp [H3.out]

set_option maxRecDepth 100000 in
set_option maxHeartbeats 400000 in
theorem esc_dig (w : World) (g B : Nat) (A : Option Addr) (c : Nat) (p : List UInt8) (k : Nat) (h : Lx w g B A c p k) (x : Int) (hx : ∃ h : k < p.length, (p[k].toNat : Int) = x) (h1 : x ≠ 100 ∧ x ≠ 119 ∧ x ≠ 115 ∧ x ≠ 68 ∧ x ≠ 87 ∧ x ≠ 83) (h2 : x ≠ 110 ∧ x ≠ 114 ∧ x ≠ 116 ∧ x ≠ 120) (h3 : letM x = false) (h4 : digM x = true) :
    Calls Try.prog 43 #[.pointer (some ⟨g, 0, none⟩)] w fun e w' => TokRes w' g B A c p (escM p k) e ∧ Only g w w' := by
  have H := Lib.hid h
  have hs := h.small
  have hk := h.at_
  have hne := h.x.lt
  have hk' : k < p.length := hx.1
  have hkB := Lib.hid hx
  obtain ⟨hx0, hx1⟩ : 0 ≤ x ∧ x ≤ 255 := by obtain ⟨h1, h2⟩ := hx; have := (p[k]).toNat_lt; omega
  obtain ⟨ad, rfl⟩ : ∃ ad, A = some ad := by obtain ⟨ad, e, _⟩ := h.r.at_ hk'; exact ⟨ad, e⟩
  have HD := Lib.hid (show decide (k + 0 < p.length) = true by simpa using hk')
  have hM := Lib.hid (escM_at p k x (by obtain ⟨h1, h2⟩ := hx; rw [byteAt_lt p k h1, h2]))
  obtain ⟨k1, hk1⟩ : ∃ k1, k1 = k + 1 := ⟨_, rfl⟩
  have hw1 : IntKind.i64.wrap ((k : Int) + 1) = (k1 : Int) := by rw [wrap_id _ (by omega) (by omega)]; omega
  have HK := Lib.hid hk1
  clear hk1 h hx
  have ho := or32 x hx0 hx1
  have n1 : ¬ bits .or .u8 x 32 = 100 := by omega
  have n2 : ¬ bits .or .u8 x 32 = 119 := by omega
  have n3 : ¬ bits .or .u8 x 32 = 115 := by omega
  have hE := Lib.hid (show escM p k = if letM x || digM x then none else some (Tok.ofByte x, k + 1) by rw [hM.out, if_neg (by omega), if_neg (by omega), if_neg (by omega), if_neg (by omega), if_neg (by omega), if_neg (by omega), if_neg (by omega), if_neg (by omega), if_neg (by omega), if_neg (by omega), if_neg (by omega)])
  clear hM
  have hM := hE
  clear hE
  obtain ⟨_, _, _, _, _, _⟩ := h1
  obtain ⟨_, _, _, _⟩ := h2
  clear ho
  have H3 := Lib.hid h3
  have H4 := Lib.hid h4
  clear h3 h4
  go_enter Try.func43, Try.ntmps43
  go_wp2
  apply wp_scope_forward 0
  · rfl
  go_wp2_with (go_at_call 42; refine (more_lit _ g B (some ad) c p k 0 true (H.out.alloc _) (by omega) HD.out).mono ?_; rintro e w1 ⟨rfl, hw⟩; have F := (Fr.new H.out Tok.zero.cells).quiet hw; clear hw; have hc1 := F.l.x.cells; have hf1 := F.l.x.frozens; have hb0' := F.l.r.cell_ hkB.out; have FF := Lib.hid F; clear F)
  go_quiet (fail)
  go_wp2_with (first | (go_at_call 53; refine (digit_cls _).mono ?_; rintro e w2 ⟨rfl, hb⟩; have F2 := Lib.hid (((FF.out.drewN _).step k1 (by have := HK.out; omega)).kept hb); have hz1 := fun o => (F2.out.z.alloc o).cells; simp only [Tok.cells, Tok.zero, Cl.zero] at hz1; have hz2 := fun o => (F2.out.z.alloc o).frozens; have GG := Lib.hid (Fc.new F2.out Cl.digit); clear hb; unfold Cl.v))
  apply wp_goto
  refine And.intro rfl ?_
  show Code.wp _ _ _ _ _
  go_wp2_with (first | (go_at_call 56; refine (let_lit _ false _ (by omega) (by omega) (H3.out)).mono ?_; rintro e w3 ⟨rfl, rfl⟩) | (go_at_call 59; refine (dig_lit _ true _ (by omega) (by omega) (H4.out)).mono ?_; rintro e w3 ⟨rfl, rfl⟩))
  have FE := GG.out.f.fin (t := Tok.zero)
  simp only [setN, Tok.list, Tok.zero, Cl.zero, Cl.cells, Nat.reduceAdd] at FE
  rw [Exit.noGoto_ret]
  refine tok_end rfl FE.z rfl rfl ⟨?_, FE.o⟩
  refine TokRes.mk_ ?_ FE.l
  rw [hM.out, HK.out]
  simp [H4.out]

set_option maxRecDepth 100000 in
set_option maxHeartbeats 400000 in
theorem esc_any (w : World) (g B : Nat) (A : Option Addr) (c : Nat) (p : List UInt8) (k : Nat) (h : Lx w g B A c p k) (x : Int) (hx : ∃ h : k < p.length, (p[k].toNat : Int) = x) (h1 : x ≠ 100 ∧ x ≠ 119 ∧ x ≠ 115 ∧ x ≠ 68 ∧ x ≠ 87 ∧ x ≠ 83) (h2 : x ≠ 110 ∧ x ≠ 114 ∧ x ≠ 116 ∧ x ≠ 120) (h3 : letM x = false) (h4 : digM x = false) :
    Calls Try.prog 43 #[.pointer (some ⟨g, 0, none⟩)] w fun e w' => TokRes w' g B A c p (escM p k) e ∧ Only g w w' := by
  have H := Lib.hid h
  have hs := h.small
  have hk := h.at_
  have hne := h.x.lt
  have hk' : k < p.length := hx.1
  have hkB := Lib.hid hx
  obtain ⟨hx0, hx1⟩ : 0 ≤ x ∧ x ≤ 255 := by obtain ⟨h1, h2⟩ := hx; have := (p[k]).toNat_lt; omega
  obtain ⟨ad, rfl⟩ : ∃ ad, A = some ad := by obtain ⟨ad, e, _⟩ := h.r.at_ hk'; exact ⟨ad, e⟩
  have HD := Lib.hid (show decide (k + 0 < p.length) = true by simpa using hk')
  have hM := Lib.hid (escM_at p k x (by obtain ⟨h1, h2⟩ := hx; rw [byteAt_lt p k h1, h2]))
  obtain ⟨k1, hk1⟩ : ∃ k1, k1 = k + 1 := ⟨_, rfl⟩
  have hw1 : IntKind.i64.wrap ((k : Int) + 1) = (k1 : Int) := by rw [wrap_id _ (by omega) (by omega)]; omega
  have HK := Lib.hid hk1
  clear hk1 h hx
  have ho := or32 x hx0 hx1
  have n1 : ¬ bits .or .u8 x 32 = 100 := by omega
  have n2 : ¬ bits .or .u8 x 32 = 119 := by omega
  have n3 : ¬ bits .or .u8 x 32 = 115 := by omega
  have hE := Lib.hid (show escM p k = if letM x || digM x then none else some (Tok.ofByte x, k + 1) by rw [hM.out, if_neg (by omega), if_neg (by omega), if_neg (by omega), if_neg (by omega), if_neg (by omega), if_neg (by omega), if_neg (by omega), if_neg (by omega), if_neg (by omega), if_neg (by omega), if_neg (by omega)])
  clear hM
  have hM := hE
  clear hE
  obtain ⟨_, _, _, _, _, _⟩ := h1
  obtain ⟨_, _, _, _⟩ := h2
  clear ho
  have H3 := Lib.hid h3
  have H4 := Lib.hid h4
  clear h3 h4
  go_enter Try.func43, Try.ntmps43
  go_wp2
  apply wp_scope_forward 0
  · rfl
  go_wp2_with (go_at_call 42; refine (more_lit _ g B (some ad) c p k 0 true (H.out.alloc _) (by omega) HD.out).mono ?_; rintro e w1 ⟨rfl, hw⟩; have F := (Fr.new H.out Tok.zero.cells).quiet hw; clear hw; have hc1 := F.l.x.cells; have hf1 := F.l.x.frozens; have hb0' := F.l.r.cell_ hkB.out; have FF := Lib.hid F; clear F)
  go_quiet (fail)
  go_wp2_with (first | (go_at_call 53; refine (digit_cls _).mono ?_; rintro e w2 ⟨rfl, hb⟩; have F2 := Lib.hid (((FF.out.drewN _).step k1 (by have := HK.out; omega)).kept hb); have hz1 := fun o => (F2.out.z.alloc o).cells; simp only [Tok.cells, Tok.zero, Cl.zero] at hz1; have hz2 := fun o => (F2.out.z.alloc o).frozens; have GG := Lib.hid (Fc.new F2.out Cl.digit); clear hb; unfold Cl.v))
  apply wp_goto
  refine And.intro rfl ?_
  show Code.wp _ _ _ _ _
  go_wp2_with (first | (go_at_call 56; refine (let_lit _ false _ (by omega) (by omega) (H3.out)).mono ?_; rintro e w3 ⟨rfl, rfl⟩) | (go_at_call 59; refine (dig_lit _ false _ (by omega) (by omega) (H4.out)).mono ?_; rintro e w3 ⟨rfl, rfl⟩))
  have FE := GG.out.f.fin (t := Tok.ofByte x)
  simp only [setN, Tok.list, Tok.ofByte, Tok.zero, Cl.zero, Cl.cells, Nat.reduceAdd] at FE
  rw [Exit.noGoto_ret]
  refine tok_end rfl FE.z rfl rfl ⟨?_, FE.o⟩
  refine TokRes.mk_ ?_ FE.l
  rw [hM.out, HK.out]
  rw [H3.out, H4.out]; rfl

set_option maxRecDepth 100000 in
set_option maxHeartbeats 400000 in
theorem esc_120 (w : World) (g B : Nat) (A : Option Addr) (c : Nat) (p : List UInt8) (k : Nat) (h : Lx w g B A c p k) (x : Int) (hx : ∃ h : k < p.length, (p[k].toNat : Int) = x) (hc : x = 120) :
    Calls Try.prog 43 #[.pointer (some ⟨g, 0, none⟩)] w fun e w' => TokRes w' g B A c p (escM p k) e ∧ Only g w w' := by
  have H := Lib.hid h
  have hs := h.small
  have hk := h.at_
  have hne := h.x.lt
  have hk' : k < p.length := hx.1
  have hkB := Lib.hid hx
  obtain ⟨hx0, hx1⟩ : 0 ≤ x ∧ x ≤ 255 := by obtain ⟨h1, h2⟩ := hx; have := (p[k]).toNat_lt; omega
  obtain ⟨ad, rfl⟩ : ∃ ad, A = some ad := by obtain ⟨ad, e, _⟩ := h.r.at_ hk'; exact ⟨ad, e⟩
  have HD := Lib.hid (show decide (k + 0 < p.length) = true by simpa using hk')
  have hM := Lib.hid (escM_at p k x (by obtain ⟨h1, h2⟩ := hx; rw [byteAt_lt p k h1, h2]))
  obtain ⟨k1, hk1⟩ : ∃ k1, k1 = k + 1 := ⟨_, rfl⟩
  have hw1 : IntKind.i64.wrap ((k : Int) + 1) = (k1 : Int) := by rw [wrap_id _ (by omega) (by omega)]; omega
  have HK := Lib.hid hk1
  clear hk1 h hx
  subst hc
  have hor : bits .or .u8 120 32 = 120 := by decide
  go_enter Try.func43, Try.ntmps43
  go_wp2
  apply wp_scope_forward 0
  · rfl
  go_wp2_with (go_at_call 42; refine (more_lit _ g B (some ad) c p k 0 true (H.out.alloc _) (by omega) HD.out).mono ?_; rintro e w1 ⟨rfl, hw⟩; have F := (Fr.new H.out Tok.zero.cells).quiet hw; clear hw; have hc1 := F.l.x.cells; have hf1 := F.l.x.frozens; have hb0' := F.l.r.cell_ hkB.out; have FF := Lib.hid F; clear F)
  go_quiet (fail)
  go_wp2_with (first | (go_at_call 53; refine (digit_cls _).mono ?_; rintro e w2 ⟨rfl, hb⟩; have F2 := Lib.hid (((FF.out.drewN _).step k1 (by have := HK.out; omega)).kept hb); have hz1 := fun o => (F2.out.z.alloc o).cells; simp only [Tok.cells, Tok.zero, Cl.zero] at hz1; have hz2 := fun o => (F2.out.z.alloc o).frozens; have GG := Lib.hid (Fc.new F2.out Cl.digit); clear hb; unfold Cl.v))
  apply wp_goto
  refine And.intro rfl ?_
  show Code.wp _ _ _ _ _
  go_wp2_with (first | (go_at_call 58; refine (coded_any _ g B (some ad) c p k1 GG.out.f.l).mono ?_; rintro e w6 ⟨hres, ho⟩; obtain ⟨t6, k6, b6, rfl, hl6, ho6⟩ := hres.out; have F6 := Lib.hid (GG.out.f.only ho hl6); clear hz1 hz2; have hz1 := F6.out.z.cells; simp only [Tok.cells, Tok.zero, Cl.zero] at hz1; have hz2 := F6.out.z.frozens; have HO := Lib.hid ho6; clear hres ho hl6 ho6; unfold Tok.v))
  have FE := F6.out.fin (t := t6)
  simp only [setN, Tok.list, Nat.reduceAdd] at FE
  rw [Exit.noGoto_ret]
  refine tok_end rfl FE.z rfl rfl ⟨?_, FE.o⟩
  refine TokRes.mk_ ?_ FE.l
  rw [hM.out, ← HO.out, HK.out]
  rfl

set_option maxRecDepth 100000 in
set_option maxHeartbeats 400000 in
theorem esc_none (w : World) (g B : Nat) (A : Option Addr) (c : Nat) (p : List UInt8) (k : Nat) (h : Lx w g B A c p k) (hx : p.length ≤ k) :
    Calls Try.prog 43 #[.pointer (some ⟨g, 0, none⟩)] w fun e w' => TokRes w' g B A c p (escM p k) e ∧ Only g w w' := by
  have H := Lib.hid h
  have HD := Lib.hid (show decide (k + 0 < p.length) = false by simpa using hx)
  have hM := Lib.hid (show escM p k = none by rw [escM_at p k (-1) (byteAt_ge p k hx)]; rfl)
  clear h hx
  go_enter Try.func43, Try.ntmps43
  go_wp2
  apply wp_scope_forward 0
  · rfl
  go_wp2_with (go_at_call 42; refine (more_lit _ g B A c p k 0 false (H.out.alloc _) (by omega) HD.out).mono ?_; rintro e w1 ⟨rfl, hw⟩; have F := (Fr.new H.out Tok.zero.cells).quiet hw; clear hw; have hz1 := F.z.cells; simp only [Tok.cells, Tok.zero, Cl.zero] at hz1; have hz2 := F.z.frozens; have FF := Lib.hid F; clear F)
  have FE := FF.out.fin (t := Tok.zero)
  simp only [setN, Tok.list, Tok.zero, Cl.zero, Nat.reduceAdd] at FE
  rw [jump_ret]
  refine tok_end rfl FE.z rfl rfl ⟨?_, FE.o⟩
  exact TokRes.mk_ hM.out FE.l

theorem escape_any (w : World) (g B : Nat) (A : Option Addr) (c : Nat) (p : List UInt8) (k : Nat) (h : Lx w g B A c p k) :
    Calls Try.prog 43 #[.pointer (some ⟨g, 0, none⟩)] w fun e w' => TokRes w' g B A c p (escM p k) e ∧ Only g w w' := by
  by_cases hk : k < p.length
  · obtain ⟨x, hx⟩ : ∃ x, ∃ h : k < p.length, (p[k].toNat : Int) = x := ⟨_, hk, rfl⟩
    by_cases h1 : x = 100 ∨ x = 119 ∨ x = 115 ∨ x = 68 ∨ x = 87 ∨ x = 83
    · rcases h1 with h1 | h1 | h1 | h1 | h1 | h1
      · exact esc_100 w g B A c p k h x hx h1
      · exact esc_119 w g B A c p k h x hx h1
      · exact esc_115 w g B A c p k h x hx h1
      · exact esc_68 w g B A c p k h x hx h1
      · exact esc_87 w g B A c p k h x hx h1
      · exact esc_83 w g B A c p k h x hx h1
    · by_cases h2 : x = 110 ∨ x = 114 ∨ x = 116 ∨ x = 120
      · rcases h2 with h2 | h2 | h2 | h2
        · exact esc_110 w g B A c p k h x hx h2
        · exact esc_114 w g B A c p k h x hx h2
        · exact esc_116 w g B A c p k h x hx h2
        · exact esc_120 w g B A c p k h x hx h2
      · have h1' : x ≠ 100 ∧ x ≠ 119 ∧ x ≠ 115 ∧ x ≠ 68 ∧ x ≠ 87 ∧ x ≠ 83 := by omega
        have h2' : x ≠ 110 ∧ x ≠ 114 ∧ x ≠ 116 ∧ x ≠ 120 := by omega
        cases h3 : letM x with
        | true => exact esc_let w g B A c p k h x hx h1' h2' h3
        | false => cases h4 : digM x with
          | true => exact esc_dig w g B A c p k h x hx h1' h2' h3 h4
          | false => exact esc_any w g B A c p k h x hx h1' h2' h3 h4
  · exact esc_none w g B A c p k h (by omega)

end Go.Proofs.Ytkfjnllbjlndlaa
