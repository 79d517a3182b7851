/- The lexer's escape and unit. -/
import Derived.Test.YtkfjnllbjlndlaaLxB
import Derived.ScopeJumps
import Derived.WalkMore
namespace Go.Proofs.Ytkfjnllbjlndlaa
open Go.RowKit

/-- A scope out of which every goto goes forward, to one label: what stands there is walked where the goto stands. -/
theorem wp_scope_forward {P : Program} {a : Act} {w : World} {Q : Exit → Act → World → Prop} {c rest : Code} (l : Nat) (hf : findLabel c l = some rest)
    (first : c.wp P (Exit.jump l (fun a' w' => rest.wp P (Exit.noGoto Q) a' w') Q) a w) : (Code.scope c).wp P Q a w :=
  wp_scope_jumps l _ (fun _ _ => 0) hf first fun a' w' h => wp_mono h fun e a w hq => by cases e <;> first | exact hq | exact hq.elim
section
variable {P : Program} {a : Act} {w : World} {Q : Exit → Act → World → Prop} {l : Nat} {J : Act → World → Prop}
@[go_sem] theorem jump_normal : Exit.jump l J Q .normal a w = Q .normal a w := rfl
@[go_sem] theorem jump_exit (id : Nat) : Exit.jump l J Q (.exit id) a w = Q (.exit id) a w := rfl
@[go_sem] theorem jump_ret : Exit.jump l J Q .ret a w = Q .ret a w := rfl
@[go_sem] theorem jump_goto : Exit.jump l J Q (.goto l) a w = J a w := by simp [Exit.jump]
end

/-- .. and a class of its own beside. -/
structure Fc (w W : World) (g B : Nat) (A : Option Addr) (c : Nat) (p : List UInt8) (k : Nat) (cs : Array Value) (z : Nat) (cl : Cl) : Prop where
  f : Fr w W g B A c p k cs
  b : Bk W z 47 cl.cells
  lt : w.heap.size < z
section
variable {w W W' : World} {g B c k z : Nat} {A : Option Addr} {p : List UInt8} {cs : Array Value} {cl : Cl}
theorem Fr.alloc (h : Fr w W g B A c p k cs) (o : Obj) : Fr w (W.alloc o) g B A c p k cs := ⟨h.l.alloc o, h.z.alloc o, h.o.alloc o, h.ne⟩
theorem Fr.setFar (h : Fr w W g B A c p k cs) (hz : w.heap.size < z) (vs : List Value) : Fr w (setN W z 0 vs) g B A c p k cs := by
  have hB : B ≤ w.heap.size := by have := h.l.le; have := h.ne; omega
  have hb : Below w.heap.size W (setN W z 0 vs) := below_setN _ (Below.refl _ _) 0 (by omega)
  exact ⟨⟨h.l.x.farN _ 0 (by have := h.ne; omega), Reads.below h.l.r (hb.mono hB), h.l.le, h.l.small, h.l.at_⟩, h.z.farN _ 0 (by omega), h.o.setN _ 0 (.inr (by omega)), h.ne⟩
theorem Fc.new (h : Fr w W g B A c p k cs) (cl : Cl) : Fc w (W.alloc (.cells cl.cells 47)) g B A c p k cs W.heap.size cl :=
  ⟨h.alloc _, Bk.new W _ _, h.z.lt⟩
theorem Fc.kept (h : Fc w W g B A c p k cs z cl) (hb : Below W.heap.size W W') : Fc w W' g B A c p k cs z cl := ⟨h.f.kept hb, h.b.kept hb, h.lt⟩
theorem Fc.put (h : Fc w W g B A c p k cs z cl) (cl' : Cl) : Fc w (setN W z 0 cl'.list) g B A c p k cs z cl' := ⟨h.f.setFar h.lt _, h.b.putN cl'.list, h.lt⟩
theorem Fc.drewN (h : Fc w W g B A c p k cs z cl) (n : Nat) : Fc w (W.drewN n) g B A c p k cs z cl := ⟨h.f.drewN n, h.b.drewN n, h.lt⟩
end
theorem let_lit (x : Int) (b : Bool) (w : World) (h0 : 0 ≤ x) (h1 : x ≤ 255) (hb : letM x = b) : Calls Try.prog 56 #[.int .u8 x] w fun e w' => e = .returned (.bool b) ∧ w = w' := hb ▸ let_any x w h0 h1
theorem dig_lit (x : Int) (b : Bool) (w : World) (h0 : 0 ≤ x) (h1 : x ≤ 255) (hb : digM x = b) : Calls Try.prog 59 #[.int .u8 x] w fun e w' => e = .returned (.bool b) ∧ w = w' := hb ▸ dig_any x w h0 h1
theorem escM_at (p : List UInt8) (k : Nat) (x : Int) (hx : byteAt p k = x) : escM p k = (if x < 0 then none
  else if x = 100 then some (Tok.ofCls Cl.digit, k + 1)
  else if x = 119 then some (Tok.ofCls Cl.word, k + 1)
  else if x = 115 then some (Tok.ofCls Cl.space, k + 1)
  else if x = 68 then some (Tok.ofCls Cl.digit.not, k + 1)
  else if x = 87 then some (Tok.ofCls Cl.word.not, k + 1)
  else if x = 83 then some (Tok.ofCls Cl.space.not, k + 1)
  else if x = 110 then some (Tok.ofByte 10, k + 1)
  else if x = 114 then some (Tok.ofByte 13, k + 1)
  else if x = 116 then some (Tok.ofByte 9, k + 1)
  else if x = 120 then hexM p (k + 1)
  else if letM x || digM x then none
  else some (Tok.ofByte x, k + 1)) := by subst hx; rfl

set_option maxRecDepth 100000 in
set_option maxHeartbeats 400000 in
theorem esc_100 (w : World) (g B : Nat) (A : Option Addr) (c : Nat) (p : List UInt8) (k : Nat) (h : Lx w g B A c p k) (x : Int) (hx : ∃ h : k < p.length, (p[k].toNat : Int) = x) (hc : x = 100) :
    Calls Try.prog 43 #[.pointer (some ⟨g, 0, none⟩)] w fun e w' => TokRes w' g B A c p (escM p k) e ∧ Only g w w' := by
  have H := Lib.hid h
  have hs := h.small
  have hk := h.at_
  have hne := h.x.lt
  have hk' : k < p.length := hx.1
  have hkB := Lib.hid hx
  obtain ⟨hx0, hx1⟩ : 0 ≤ x ∧ x ≤ 255 := by obtain ⟨h1, h2⟩ := hx; have := (p[k]).toNat_lt; omega
  obtain ⟨ad, rfl⟩ : ∃ ad, A = some ad := by obtain ⟨ad, e, _⟩ := h.r.at_ hk'; exact ⟨ad, e⟩
  have HD := Lib.hid (show decide (k + 0 < p.length) = true by simpa using hk')
  have hM := Lib.hid (escM_at p k x (by obtain ⟨h1, h2⟩ := hx; rw [byteAt_lt p k h1, h2]))
  obtain ⟨k1, hk1⟩ : ∃ k1, k1 = k + 1 := ⟨_, rfl⟩
  have hw1 : IntKind.i64.wrap ((k : Int) + 1) = (k1 : Int) := by rw [wrap_id _ (by omega) (by omega)]; omega
  have HK := Lib.hid hk1
  clear hk1 h hx
  subst hc
  have hor : bits .or .u8 100 32 = 100 := by decide
  go_enter Try.func43, Try.ntmps43
  go_wp2
  apply wp_scope_forward 0
  · rfl
  go_wp2_with (go_at_call 42; refine (more_lit _ g B (some ad) c p k 0 true (H.out.alloc _) (by omega) HD.out).mono ?_; rintro e w1 ⟨rfl, hw⟩; have F := (Fr.new H.out Tok.zero.cells).quiet hw; clear hw; have hc1 := F.l.x.cells; have hf1 := F.l.x.frozens; have hb0' := F.l.r.cell_ hkB.out; have FF := Lib.hid F; clear F)
  go_quiet (fail)
  go_wp2_with (first | (go_at_call 53; refine (digit_cls _).mono ?_; rintro e w2 ⟨rfl, hb⟩; have F2 := Lib.hid (((FF.out.drewN _).step k1 (by have := HK.out; omega)).kept hb); have hz1 := fun o => (F2.out.z.alloc o).cells; simp only [Tok.cells, Tok.zero, Cl.zero] at hz1; have hz2 := fun o => (F2.out.z.alloc o).frozens; have GG := Lib.hid (Fc.new F2.out Cl.digit); clear hb; unfold Cl.v) | (go_at_call 56; refine (let_lit _ true _ (by omega) (by omega) (by decide)).mono ?_; rintro e w3 ⟨rfl, rfl⟩))
  have FE := GG.out.f.fin (t := Tok.ofCls Cl.digit)
  simp only [setN, Tok.list, Tok.ofCls, Tok.zero, Cl.zero, Cl.cells, Nat.reduceAdd] at FE
  rw [jump_ret]
  refine tok_end rfl FE.z rfl rfl ⟨?_, FE.o⟩
  refine TokRes.mk_ ?_ FE.l
  rw [hM.out, HK.out]
  rfl

set_option maxRecDepth 100000 in
set_option maxHeartbeats 400000 in
theorem esc_119 (w : World) (g B : Nat) (A : Option Addr) (c : Nat) (p : List UInt8) (k : Nat) (h : Lx w g B A c p k) (x : Int) (hx : ∃ h : k < p.length, (p[k].toNat : Int) = x) (hc : x = 119) :
    Calls Try.prog 43 #[.pointer (some ⟨g, 0, none⟩)] w fun e w' => TokRes w' g B A c p (escM p k) e ∧ Only g w w' := by
  have H := Lib.hid h
  have hs := h.small
  have hk := h.at_
  have hne := h.x.lt
  have hk' : k < p.length := hx.1
  have hkB := Lib.hid hx
  obtain ⟨hx0, hx1⟩ : 0 ≤ x ∧ x ≤ 255 := by obtain ⟨h1, h2⟩ := hx; have := (p[k]).toNat_lt; omega
  obtain ⟨ad, rfl⟩ : ∃ ad, A = some ad := by obtain ⟨ad, e, _⟩ := h.r.at_ hk'; exact ⟨ad, e⟩
  have HD := Lib.hid (show decide (k + 0 < p.length) = true by simpa using hk')
  have hM := Lib.hid (escM_at p k x (by obtain ⟨h1, h2⟩ := hx; rw [byteAt_lt p k h1, h2]))
  obtain ⟨k1, hk1⟩ : ∃ k1, k1 = k + 1 := ⟨_, rfl⟩
  have hw1 : IntKind.i64.wrap ((k : Int) + 1) = (k1 : Int) := by rw [wrap_id _ (by omega) (by omega)]; omega
  have HK := Lib.hid hk1
  clear hk1 h hx
  subst hc
  have hor : bits .or .u8 119 32 = 119 := by decide
  go_enter Try.func43, Try.ntmps43
  go_wp2
  apply wp_scope_forward 0
  · rfl
  go_wp2_with (go_at_call 42; refine (more_lit _ g B (some ad) c p k 0 true (H.out.alloc _) (by omega) HD.out).mono ?_; rintro e w1 ⟨rfl, hw⟩; have F := (Fr.new H.out Tok.zero.cells).quiet hw; clear hw; have hc1 := F.l.x.cells; have hf1 := F.l.x.frozens; have hb0' := F.l.r.cell_ hkB.out; have FF := Lib.hid F; clear F)
  go_quiet (fail)
  go_wp2_with (first | (go_at_call 53; refine (digit_cls _).mono ?_; rintro e w2 ⟨rfl, hb⟩; have F2 := Lib.hid (((FF.out.drewN _).step k1 (by have := HK.out; omega)).kept hb); have hz1 := fun o => (F2.out.z.alloc o).cells; simp only [Tok.cells, Tok.zero, Cl.zero] at hz1; have hz2 := fun o => (F2.out.z.alloc o).frozens; have GG := Lib.hid (Fc.new F2.out Cl.digit); clear hb; unfold Cl.v) | (go_at_call 56; refine (let_lit _ true _ (by omega) (by omega) (by decide)).mono ?_; rintro e w3 ⟨rfl, rfl⟩) | (go_at_call 54; refine (word_cls _).mono ?_; rintro e w4 ⟨rfl, hb⟩; have G4 := Lib.hid (GG.out.kept hb); clear hz1 hz2; have hz1 := G4.out.f.z.cells; simp only [Tok.cells, Tok.zero, Cl.zero] at hz1; have hz2 := G4.out.f.z.frozens; have hq1 := G4.out.b.cells; simp only [Cl.cells] at hq1; have hq2 := G4.out.b.frozens; have G5 := G4.out.put Cl.word; simp only [setN, Cl.list, Nat.reduceAdd] at G5; have GG := Lib.hid G5; clear hb G5; have hlt := G4.out.lt; unfold Cl.v))
  have FE := GG.out.f.fin (t := Tok.ofCls Cl.word)
  simp only [setN, Tok.list, Tok.ofCls, Tok.zero, Cl.zero, Nat.reduceAdd] at FE
  rw [jump_ret]
  refine tok_end rfl FE.z rfl rfl ⟨?_, FE.o⟩
  refine TokRes.mk_ ?_ FE.l
  rw [hM.out, HK.out]
  rfl

set_option maxRecDepth 100000 in
set_option maxHeartbeats 400000 in
theorem esc_115 (w : World) (g B : Nat) (A : Option Addr) (c : Nat) (p : List UInt8) (k : Nat) (h : Lx w g B A c p k) (x : Int) (hx : ∃ h : k < p.length, (p[k].toNat : Int) = x) (hc : x = 115) :
    Calls Try.prog 43 #[.pointer (some ⟨g, 0, none⟩)] w fun e w' => TokRes w' g B A c p (escM p k) e ∧ Only g w w' := by
  have H := Lib.hid h
  have hs := h.small
  have hk := h.at_
  have hne := h.x.lt
  have hk' : k < p.length := hx.1
  have hkB := Lib.hid hx
  obtain ⟨hx0, hx1⟩ : 0 ≤ x ∧ x ≤ 255 := by obtain ⟨h1, h2⟩ := hx; have := (p[k]).toNat_lt; omega
  obtain ⟨ad, rfl⟩ : ∃ ad, A = some ad := by obtain ⟨ad, e, _⟩ := h.r.at_ hk'; exact ⟨ad, e⟩
  have HD := Lib.hid (show decide (k + 0 < p.length) = true by simpa using hk')
  have hM := Lib.hid (escM_at p k x (by obtain ⟨h1, h2⟩ := hx; rw [byteAt_lt p k h1, h2]))
  obtain ⟨k1, hk1⟩ : ∃ k1, k1 = k + 1 := ⟨_, rfl⟩
  have hw1 : IntKind.i64.wrap ((k : Int) + 1) = (k1 : Int) := by rw [wrap_id _ (by omega) (by omega)]; omega
  have HK := Lib.hid hk1
  clear hk1 h hx
  subst hc
  have hor : bits .or .u8 115 32 = 115 := by decide
  go_enter Try.func43, Try.ntmps43
  go_wp2
  apply wp_scope_forward 0
  · rfl
  go_wp2_with (go_at_call 42; refine (more_lit _ g B (some ad) c p k 0 true (H.out.alloc _) (by omega) HD.out).mono ?_; rintro e w1 ⟨rfl, hw⟩; have F := (Fr.new H.out Tok.zero.cells).quiet hw; clear hw; have hc1 := F.l.x.cells; have hf1 := F.l.x.frozens; have hb0' := F.l.r.cell_ hkB.out; have FF := Lib.hid F; clear F)
  go_quiet (fail)
  go_wp2_with (first | (go_at_call 53; refine (digit_cls _).mono ?_; rintro e w2 ⟨rfl, hb⟩; have F2 := Lib.hid (((FF.out.drewN _).step k1 (by have := HK.out; omega)).kept hb); have hz1 := fun o => (F2.out.z.alloc o).cells; simp only [Tok.cells, Tok.zero, Cl.zero] at hz1; have hz2 := fun o => (F2.out.z.alloc o).frozens; have GG := Lib.hid (Fc.new F2.out Cl.digit); clear hb; unfold Cl.v) | (go_at_call 56; refine (let_lit _ true _ (by omega) (by omega) (by decide)).mono ?_; rintro e w3 ⟨rfl, rfl⟩) | (go_at_call 55; refine (space_cls _).mono ?_; rintro e w4 ⟨rfl, hb⟩; have G4 := Lib.hid (GG.out.kept hb); clear hz1 hz2; have hz1 := G4.out.f.z.cells; simp only [Tok.cells, Tok.zero, Cl.zero] at hz1; have hz2 := G4.out.f.z.frozens; have hq1 := G4.out.b.cells; simp only [Cl.cells] at hq1; have hq2 := G4.out.b.frozens; have G5 := G4.out.put Cl.space; simp only [setN, Cl.list, Nat.reduceAdd] at G5; have GG := Lib.hid G5; clear hb G5; have hlt := G4.out.lt; unfold Cl.v))
  have FE := GG.out.f.fin (t := Tok.ofCls Cl.space)
  simp only [setN, Tok.list, Tok.ofCls, Tok.zero, Cl.zero, Nat.reduceAdd] at FE
  rw [jump_ret]
  refine tok_end rfl FE.z rfl rfl ⟨?_, FE.o⟩
  refine TokRes.mk_ ?_ FE.l
  rw [hM.out, HK.out]
  rfl

set_option maxRecDepth 100000 in
set_option maxHeartbeats 400000 in
theorem esc_68 (w : World) (g B : Nat) (A : Option Addr) (c : Nat) (p : List UInt8) (k : Nat) (h : Lx w g B A c p k) (x : Int) (hx : ∃ h : k < p.length, (p[k].toNat : Int) = x) (hc : x = 68) :
    Calls Try.prog 43 #[.pointer (some ⟨g, 0, none⟩)] w fun e w' => TokRes w' g B A c p (escM p k) e ∧ Only g w w' := by
  have H := Lib.hid h
  have hs := h.small
  have hk := h.at_
  have hne := h.x.lt
  have hk' : k < p.length := hx.1
  have hkB := Lib.hid hx
  obtain ⟨hx0, hx1⟩ : 0 ≤ x ∧ x ≤ 255 := by obtain ⟨h1, h2⟩ := hx; have := (p[k]).toNat_lt; omega
  obtain ⟨ad, rfl⟩ : ∃ ad, A = some ad := by obtain ⟨ad, e, _⟩ := h.r.at_ hk'; exact ⟨ad, e⟩
  have HD := Lib.hid (show decide (k + 0 < p.length) = true by simpa using hk')
  have hM := Lib.hid (escM_at p k x (by obtain ⟨h1, h2⟩ := hx; rw [byteAt_lt p k h1, h2]))
  obtain ⟨k1, hk1⟩ : ∃ k1, k1 = k + 1 := ⟨_, rfl⟩
  have hw1 : IntKind.i64.wrap ((k : Int) + 1) = (k1 : Int) := by rw [wrap_id _ (by omega) (by omega)]; omega
  have HK := Lib.hid hk1
  clear hk1 h hx
  subst hc
  have hor : bits .or .u8 68 32 = 100 := by decide
  go_enter Try.func43, Try.ntmps43
  go_wp2
  apply wp_scope_forward 0
  · rfl
  go_wp2_with (go_at_call 42; refine (more_lit _ g B (some ad) c p k 0 true (H.out.alloc _) (by omega) HD.out).mono ?_; rintro e w1 ⟨rfl, hw⟩; have F := (Fr.new H.out Tok.zero.cells).quiet hw; clear hw; have hc1 := F.l.x.cells; have hf1 := F.l.x.frozens; have hb0' := F.l.r.cell_ hkB.out; have FF := Lib.hid F; clear F)
  go_quiet (fail)
  go_wp2_with (first | (go_at_call 53; refine (digit_cls _).mono ?_; rintro e w2 ⟨rfl, hb⟩; have F2 := Lib.hid (((FF.out.drewN _).step k1 (by have := HK.out; omega)).kept hb); have hz1 := fun o => (F2.out.z.alloc o).cells; simp only [Tok.cells, Tok.zero, Cl.zero] at hz1; have hz2 := fun o => (F2.out.z.alloc o).frozens; have GG := Lib.hid (Fc.new F2.out Cl.digit); clear hb; unfold Cl.v) | (go_at_call 56; refine (let_lit _ true _ (by omega) (by omega) (by decide)).mono ?_; rintro e w3 ⟨rfl, rfl⟩) | (go_at_call 57; refine (not_cls Cl.digit _).mono ?_; rintro e w5 ⟨rfl, hb⟩; have G6 := Lib.hid (GG.out.kept hb); clear hz1 hz2; have hz1 := G6.out.f.z.cells; simp only [Tok.cells, Tok.zero, Cl.zero] at hz1; have hz2 := G6.out.f.z.frozens; have hr1 := G6.out.b.cells; simp only [Cl.cells] at hr1; have hr2 := G6.out.b.frozens; have G7 := G6.out.put Cl.digit.not; simp only [setN, Cl.list, Nat.reduceAdd] at G7; have GG := Lib.hid G7; clear hb G7; have hlt := G6.out.lt; unfold Cl.v))
  have FE := GG.out.f.fin (t := Tok.ofCls Cl.digit.not)
  simp only [setN, Tok.list, Tok.ofCls, Tok.zero, Cl.zero, Nat.reduceAdd] at FE
  rw [jump_ret]
  refine tok_end rfl FE.z rfl rfl ⟨?_, FE.o⟩
  refine TokRes.mk_ ?_ FE.l
  rw [hM.out, HK.out]
  rfl

set_option maxRecDepth 100000 in
set_option maxHeartbeats 400000 in
theorem esc_87 (w : World) (g B : Nat) (A : Option Addr) (c : Nat) (p : List UInt8) (k : Nat) (h : Lx w g B A c p k) (x : Int) (hx : ∃ h : k < p.length, (p[k].toNat : Int) = x) (hc : x = 87) :
    Calls Try.prog 43 #[.pointer (some ⟨g, 0, none⟩)] w fun e w' => TokRes w' g B A c p (escM p k) e ∧ Only g w w' := by
  have H := Lib.hid h
  have hs := h.small
  have hk := h.at_
  have hne := h.x.lt
  have hk' : k < p.length := hx.1
  have hkB := Lib.hid hx
  obtain ⟨hx0, hx1⟩ : 0 ≤ x ∧ x ≤ 255 := by obtain ⟨h1, h2⟩ := hx; have := (p[k]).toNat_lt; omega
  obtain ⟨ad, rfl⟩ : ∃ ad, A = some ad := by obtain ⟨ad, e, _⟩ := h.r.at_ hk'; exact ⟨ad, e⟩
  have HD := Lib.hid (show decide (k + 0 < p.length) = true by simpa using hk')
  have hM := Lib.hid (escM_at p k x (by obtain ⟨h1, h2⟩ := hx; rw [byteAt_lt p k h1, h2]))
  obtain ⟨k1, hk1⟩ : ∃ k1, k1 = k + 1 := ⟨_, rfl⟩
  have hw1 : IntKind.i64.wrap ((k : Int) + 1) = (k1 : Int) := by rw [wrap_id _ (by omega) (by omega)]; omega
  have HK := Lib.hid hk1
  clear hk1 h hx
  subst hc
  have hor : bits .or .u8 87 32 = 119 := by decide
  go_enter Try.func43, Try.ntmps43
  go_wp2
  apply wp_scope_forward 0
  · rfl
  go_wp2_with (go_at_call 42; refine (more_lit _ g B (some ad) c p k 0 true (H.out.alloc _) (by omega) HD.out).mono ?_; rintro e w1 ⟨rfl, hw⟩; have F := (Fr.new H.out Tok.zero.cells).quiet hw; clear hw; have hc1 := F.l.x.cells; have hf1 := F.l.x.frozens; have hb0' := F.l.r.cell_ hkB.out; have FF := Lib.hid F; clear F)
  go_quiet (fail)
  go_wp2_with (first | (go_at_call 53; refine (digit_cls _).mono ?_; rintro e w2 ⟨rfl, hb⟩; have F2 := Lib.hid (((FF.out.drewN _).step k1 (by have := HK.out; omega)).kept hb); have hz1 := fun o => (F2.out.z.alloc o).cells; simp only [Tok.cells, Tok.zero, Cl.zero] at hz1; have hz2 := fun o => (F2.out.z.alloc o).frozens; have GG := Lib.hid (Fc.new F2.out Cl.digit); clear hb; unfold Cl.v) | (go_at_call 56; refine (let_lit _ true _ (by omega) (by omega) (by decide)).mono ?_; rintro e w3 ⟨rfl, rfl⟩) | (go_at_call 54; refine (word_cls _).mono ?_; rintro e w4 ⟨rfl, hb⟩; have G4 := Lib.hid (GG.out.kept hb); clear hz1 hz2; have hz1 := G4.out.f.z.cells; simp only [Tok.cells, Tok.zero, Cl.zero] at hz1; have hz2 := G4.out.f.z.frozens; have hq1 := G4.out.b.cells; simp only [Cl.cells] at hq1; have hq2 := G4.out.b.frozens; have G5 := G4.out.put Cl.word; simp only [setN, Cl.list, Nat.reduceAdd] at G5; have GG := Lib.hid G5; clear hb G5; have hlt := G4.out.lt; unfold Cl.v) | (go_at_call 57; refine (not_cls Cl.word _).mono ?_; rintro e w5 ⟨rfl, hb⟩; have G6 := Lib.hid (GG.out.kept hb); clear hz1 hz2; have hz1 := G6.out.f.z.cells; simp only [Tok.cells, Tok.zero, Cl.zero] at hz1; have hz2 := G6.out.f.z.frozens; have hr1 := G6.out.b.cells; simp only [Cl.cells] at hr1; have hr2 := G6.out.b.frozens; have G7 := G6.out.put Cl.word.not; simp only [setN, Cl.list, Nat.reduceAdd] at G7; have GG := Lib.hid G7; clear hb G7; have hlt := G6.out.lt; unfold Cl.v))
  have FE := GG.out.f.fin (t := Tok.ofCls Cl.word.not)
  simp only [setN, Tok.list, Tok.ofCls, Tok.zero, Cl.zero, Nat.reduceAdd] at FE
  rw [jump_ret]
  refine tok_end rfl FE.z rfl rfl ⟨?_, FE.o⟩
  refine TokRes.mk_ ?_ FE.l
  rw [hM.out, HK.out]
  rfl

set_option maxRecDepth 100000 in
set_option maxHeartbeats 400000 in
theorem esc_83 (w : World) (g B : Nat) (A : Option Addr) (c : Nat) (p : List UInt8) (k : Nat) (h : Lx w g B A c p k) (x : Int) (hx : ∃ h : k < p.length, (p[k].toNat : Int) = x) (hc : x = 83) :
    Calls Try.prog 43 #[.pointer (some ⟨g, 0, none⟩)] w fun e w' => TokRes w' g B A c p (escM p k) e ∧ Only g w w' := by
  have H := Lib.hid h
  have hs := h.small
  have hk := h.at_
  have hne := h.x.lt
  have hk' : k < p.length := hx.1
  have hkB := Lib.hid hx
  obtain ⟨hx0, hx1⟩ : 0 ≤ x ∧ x ≤ 255 := by obtain ⟨h1, h2⟩ := hx; have := (p[k]).toNat_lt; omega
  obtain ⟨ad, rfl⟩ : ∃ ad, A = some ad := by obtain ⟨ad, e, _⟩ := h.r.at_ hk'; exact ⟨ad, e⟩
  have HD := Lib.hid (show decide (k + 0 < p.length) = true by simpa using hk')
  have hM := Lib.hid (escM_at p k x (by obtain ⟨h1, h2⟩ := hx; rw [byteAt_lt p k h1, h2]))
  obtain ⟨k1, hk1⟩ : ∃ k1, k1 = k + 1 := ⟨_, rfl⟩
  have hw1 : IntKind.i64.wrap ((k : Int) + 1) = (k1 : Int) := by rw [wrap_id _ (by omega) (by omega)]; omega
  have HK := Lib.hid hk1
  clear hk1 h hx
  subst hc
  have hor : bits .or .u8 83 32 = 115 := by decide
  go_enter Try.func43, Try.ntmps43
  go_wp2
  apply wp_scope_forward 0
  · rfl
  go_wp2_with (go_at_call 42; refine (more_lit _ g B (some ad) c p k 0 true (H.out.alloc _) (by omega) HD.out).mono ?_; rintro e w1 ⟨rfl, hw⟩; have F := (Fr.new H.out Tok.zero.cells).quiet hw; clear hw; have hc1 := F.l.x.cells; have hf1 := F.l.x.frozens; have hb0' := F.l.r.cell_ hkB.out; have FF := Lib.hid F; clear F)
  go_quiet (fail)
  go_wp2_with (first | (go_at_call 53; refine (digit_cls _).mono ?_; rintro e w2 ⟨rfl, hb⟩; have F2 := Lib.hid (((FF.out.drewN _).step k1 (by have := HK.out; omega)).kept hb); have hz1 := fun o => (F2.out.z.alloc o).cells; simp only [Tok.cells, Tok.zero, Cl.zero] at hz1; have hz2 := fun o => (F2.out.z.alloc o).frozens; have GG := Lib.hid (Fc.new F2.out Cl.digit); clear hb; unfold Cl.v) | (go_at_call 56; refine (let_lit _ true _ (by omega) (by omega) (by decide)).mono ?_; rintro e w3 ⟨rfl, rfl⟩) | (go_at_call 55; refine (space_cls _).mono ?_; rintro e w4 ⟨rfl, hb⟩; have G4 := Lib.hid (GG.out.kept hb); clear hz1 hz2; have hz1 := G4.out.f.z.cells; simp only [Tok.cells, Tok.zero, Cl.zero] at hz1; have hz2 := G4.out.f.z.frozens; have hq1 := G4.out.b.cells; simp only [Cl.cells] at hq1; have hq2 := G4.out.b.frozens; have G5 := G4.out.put Cl.space; simp only [setN, Cl.list, Nat.reduceAdd] at G5; have GG := Lib.hid G5; clear hb G5; have hlt := G4.out.lt; unfold Cl.v) | (go_at_call 57; refine (not_cls Cl.space _).mono ?_; rintro e w5 ⟨rfl, hb⟩; have G6 := Lib.hid (GG.out.kept hb); clear hz1 hz2; have hz1 := G6.out.f.z.cells; simp only [Tok.cells, Tok.zero, Cl.zero] at hz1; have hz2 := G6.out.f.z.frozens; have hr1 := G6.out.b.cells; simp only [Cl.cells] at hr1; have hr2 := G6.out.b.frozens; have G7 := G6.out.put Cl.space.not; simp only [setN, Cl.list, Nat.reduceAdd] at G7; have GG := Lib.hid G7; clear hb G7; have hlt := G6.out.lt; unfold Cl.v))
  have FE := GG.out.f.fin (t := Tok.ofCls Cl.space.not)
  simp only [setN, Tok.list, Tok.ofCls, Tok.zero, Cl.zero, Nat.reduceAdd] at FE
  rw [jump_ret]
  refine tok_end rfl FE.z rfl rfl ⟨?_, FE.o⟩
  refine TokRes.mk_ ?_ FE.l
  rw [hM.out, HK.out]
  rfl

end Go.Proofs.Ytkfjnllbjlndlaa
