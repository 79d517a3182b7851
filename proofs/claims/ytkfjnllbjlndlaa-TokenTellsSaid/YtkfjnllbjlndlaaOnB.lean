/- The lexer's one: a token. -/
import Derived.Test.YtkfjnllbjlndlaaOnA
import Derived.Deep.CutRange
namespace Go.Proofs.Ytkfjnllbjlndlaa
open Go.RowKit

theorem lazyM_any (p : List UInt8) (k k1 k' : Nat) (t : Tok) (b : Bool) (ht : t.lazy = false) (h : (b = true → byteAt p k1 = 63 ∧ k' = k1 + 1 ∧ k1 < p.length) ∧ (b = false → byteAt p k1 ≠ 63 ∧ k' = k1)) : lazyM p k t k1 = .ok { t with lazy := b, at_ := k } k' := by
  unfold lazyM
  cases b with
  | true => obtain ⟨h1, rfl, _⟩ := h.1 rfl; rw [if_pos h1]
  | false => obtain ⟨h1, rfl⟩ := h.2 rfl; rw [if_neg h1]; cases t; simp_all

set_option maxRecDepth 100000 in
set_option maxHeartbeats 4000000 in
theorem one_43 (w : World) (g B : Nat) (A : Option Addr) (c : Nat) (p : List UInt8) (k : Nat) (h : Lx w g B A c p k) (x : Int) (hx : ∃ h : k < p.length, (p[k].toNat : Int) = x) (hc : x = 43) :
    Calls Try.prog 34 #[.pointer (some ⟨g, 0, none⟩)] w fun e w' => OneRes w' g B A c p (oneM p k) e ∧ Only g w w' := by
  have H := Lib.hid h
  have hs := h.small
  have hk := h.at_
  have hne := h.x.lt
  have hk' : k < p.length := hx.1
  obtain ⟨hx0, hx1⟩ : 0 ≤ x ∧ x ≤ 255 := by obtain ⟨h1, h2⟩ := hx; have := (p[k]).toNat_lt; omega
  obtain ⟨ad, rfl⟩ : ∃ ad, A = some ad := by obtain ⟨ad, e, _⟩ := h.r.at_ hk'; exact ⟨ad, e⟩
  have hX := Lib.hid (show byteAt p k = x by obtain ⟨h1, h2⟩ := hx; rw [byteAt_lt p k h1, h2])
  obtain ⟨k1, hk1⟩ : ∃ k1, k1 = k + 1 := ⟨_, rfl⟩
  have hw1 : IntKind.i64.wrap ((k : Int) + 1) = (k1 : Int) := by rw [wrap_id _ (by omega) (by omega)]; omega
  have HK := Lib.hid hk1
  have hb0 := fun o => (h.alloc o).r.cell_ hx
  have hc1 := fun o => (h.alloc o).x.cells
  have hf1 := fun o => (h.alloc o).x.frozens
  have FF := Lib.hid (Fr.new h Tok.zero.cells)
  clear hk1 h hx
  subst hc
  go_enter Try.func34, Try.ntmps34
  refine shut_post fun E0 HQ => ?_
  go_wp2
  go_quiet (fail)
  have F1 := fun n => Ft.one H.out k1 (by have := HK.out; omega) { Tok.zero with kind := 7, least := 1, most := -1 } n
  go_wp2_with (go_at_call 45; refine (comes_any _ g B (some ad) c p k1 63 (F1 _).f.l (by decide)).mono ?_; rintro e w2 ⟨b2, k2, rfl, hl2, ho2, hy2⟩; have F2 := Lib.hid ((F1 _).only ho2 hl2); have HY2 := Lib.hid hy2; clear hl2 ho2 hy2; have hz2_1 := F2.out.f.z.cells; simp only [Tok.cells, Tok.zero, Cl.zero] at hz2_1; have hz2_2 := F2.out.f.z.frozens; have hy2_1 := F2.out.b.cells; simp only [Tok.cells, Tok.zero, Cl.zero] at hy2_1; have hy2_2 := F2.out.b.frozens; have hlt := F2.out.lt)
  have FE := ((F2.out.set 9 (.bool b2) (set_lazy _ b2)).set 10 (.int .i64 k) (set_at _ k)).f.fin (t := { Tok.zero with kind := 7, least := 1, most := -1, lazy := b2, at_ := k })
  simp only [setN, Tok.list, Tok.cells, Tok.zero, Cl.zero, Nat.reduceAdd] at FE
  refine HQ.out _ _ ?_
  refine tok_end3 (t := { Tok.zero with kind := 7, least := 1, most := -1, lazy := b2, at_ := k }) rfl FE.z rfl rfl rfl ⟨?_, FE.o⟩
  rw [show oneM p k = .ok { Tok.zero with kind := 7, least := 1, most := -1, lazy := b2, at_ := k } k2 from by rw [oneM_at p k 43 hX.out]; exact lazyM_any p k (k + 1) k2 { Tok.zero with kind := 7, least := 1, most := -1 } b2 rfl (HK.out ▸ HY2.out)]
  exact ⟨rfl, FE.l⟩

set_option maxRecDepth 100000 in
set_option maxHeartbeats 4000000 in
theorem one_42 (w : World) (g B : Nat) (A : Option Addr) (c : Nat) (p : List UInt8) (k : Nat) (h : Lx w g B A c p k) (x : Int) (hx : ∃ h : k < p.length, (p[k].toNat : Int) = x) (hc : x = 42) :
    Calls Try.prog 34 #[.pointer (some ⟨g, 0, none⟩)] w fun e w' => OneRes w' g B A c p (oneM p k) e ∧ Only g w w' := by
  have H := Lib.hid h
  have hs := h.small
  have hk := h.at_
  have hne := h.x.lt
  have hk' : k < p.length := hx.1
  obtain ⟨hx0, hx1⟩ : 0 ≤ x ∧ x ≤ 255 := by obtain ⟨h1, h2⟩ := hx; have := (p[k]).toNat_lt; omega
  obtain ⟨ad, rfl⟩ : ∃ ad, A = some ad := by obtain ⟨ad, e, _⟩ := h.r.at_ hk'; exact ⟨ad, e⟩
  have hX := Lib.hid (show byteAt p k = x by obtain ⟨h1, h2⟩ := hx; rw [byteAt_lt p k h1, h2])
  obtain ⟨k1, hk1⟩ : ∃ k1, k1 = k + 1 := ⟨_, rfl⟩
  have hw1 : IntKind.i64.wrap ((k : Int) + 1) = (k1 : Int) := by rw [wrap_id _ (by omega) (by omega)]; omega
  have HK := Lib.hid hk1
  have hb0 := fun o => (h.alloc o).r.cell_ hx
  have hc1 := fun o => (h.alloc o).x.cells
  have hf1 := fun o => (h.alloc o).x.frozens
  have FF := Lib.hid (Fr.new h Tok.zero.cells)
  clear hk1 h hx
  subst hc
  go_enter Try.func34, Try.ntmps34
  refine shut_post fun E0 HQ => ?_
  go_wp2
  go_quiet (fail)
  have F1 := fun n => Ft.one H.out k1 (by have := HK.out; omega) { Tok.zero with kind := 7, least := 0, most := -1 } n
  go_wp2_with (go_at_call 45; refine (comes_any _ g B (some ad) c p k1 63 (F1 _).f.l (by decide)).mono ?_; rintro e w2 ⟨b2, k2, rfl, hl2, ho2, hy2⟩; have F2 := Lib.hid ((F1 _).only ho2 hl2); have HY2 := Lib.hid hy2; clear hl2 ho2 hy2; have hz2_1 := F2.out.f.z.cells; simp only [Tok.cells, Tok.zero, Cl.zero] at hz2_1; have hz2_2 := F2.out.f.z.frozens; have hy2_1 := F2.out.b.cells; simp only [Tok.cells, Tok.zero, Cl.zero] at hy2_1; have hy2_2 := F2.out.b.frozens; have hlt := F2.out.lt)
  have FE := ((F2.out.set 9 (.bool b2) (set_lazy _ b2)).set 10 (.int .i64 k) (set_at _ k)).f.fin (t := { Tok.zero with kind := 7, least := 0, most := -1, lazy := b2, at_ := k })
  simp only [setN, Tok.list, Tok.cells, Tok.zero, Cl.zero, Nat.reduceAdd] at FE
  refine HQ.out _ _ ?_
  refine tok_end3 (t := { Tok.zero with kind := 7, least := 0, most := -1, lazy := b2, at_ := k }) rfl FE.z rfl rfl rfl ⟨?_, FE.o⟩
  rw [show oneM p k = .ok { Tok.zero with kind := 7, least := 0, most := -1, lazy := b2, at_ := k } k2 from by rw [oneM_at p k 42 hX.out]; exact lazyM_any p k (k + 1) k2 { Tok.zero with kind := 7, least := 0, most := -1 } b2 rfl (HK.out ▸ HY2.out)]
  exact ⟨rfl, FE.l⟩

set_option maxRecDepth 100000 in
set_option maxHeartbeats 4000000 in
theorem one_63 (w : World) (g B : Nat) (A : Option Addr) (c : Nat) (p : List UInt8) (k : Nat) (h : Lx w g B A c p k) (x : Int) (hx : ∃ h : k < p.length, (p[k].toNat : Int) = x) (hc : x = 63) :
    Calls Try.prog 34 #[.pointer (some ⟨g, 0, none⟩)] w fun e w' => OneRes w' g B A c p (oneM p k) e ∧ Only g w w' := by
  have H := Lib.hid h
  have hs := h.small
  have hk := h.at_
  have hne := h.x.lt
  have hk' : k < p.length := hx.1
  obtain ⟨hx0, hx1⟩ : 0 ≤ x ∧ x ≤ 255 := by obtain ⟨h1, h2⟩ := hx; have := (p[k]).toNat_lt; omega
  obtain ⟨ad, rfl⟩ : ∃ ad, A = some ad := by obtain ⟨ad, e, _⟩ := h.r.at_ hk'; exact ⟨ad, e⟩
  have hX := Lib.hid (show byteAt p k = x by obtain ⟨h1, h2⟩ := hx; rw [byteAt_lt p k h1, h2])
  obtain ⟨k1, hk1⟩ : ∃ k1, k1 = k + 1 := ⟨_, rfl⟩
  have hw1 : IntKind.i64.wrap ((k : Int) + 1) = (k1 : Int) := by rw [wrap_id _ (by omega) (by omega)]; omega
  have HK := Lib.hid hk1
  have hb0 := fun o => (h.alloc o).r.cell_ hx
  have hc1 := fun o => (h.alloc o).x.cells
  have hf1 := fun o => (h.alloc o).x.frozens
  have FF := Lib.hid (Fr.new h Tok.zero.cells)
  clear hk1 h hx
  subst hc
  go_enter Try.func34, Try.ntmps34
  refine shut_post fun E0 HQ => ?_
  go_wp2
  go_quiet (fail)
  have F1 := fun n => Ft.one H.out k1 (by have := HK.out; omega) { Tok.zero with kind := 7, least := 0, most := 1 } n
  go_wp2_with (go_at_call 45; refine (comes_any _ g B (some ad) c p k1 63 (F1 _).f.l (by decide)).mono ?_; rintro e w2 ⟨b2, k2, rfl, hl2, ho2, hy2⟩; have F2 := Lib.hid ((F1 _).only ho2 hl2); have HY2 := Lib.hid hy2; clear hl2 ho2 hy2; have hz2_1 := F2.out.f.z.cells; simp only [Tok.cells, Tok.zero, Cl.zero] at hz2_1; have hz2_2 := F2.out.f.z.frozens; have hy2_1 := F2.out.b.cells; simp only [Tok.cells, Tok.zero, Cl.zero] at hy2_1; have hy2_2 := F2.out.b.frozens; have hlt := F2.out.lt)
  have FE := ((F2.out.set 9 (.bool b2) (set_lazy _ b2)).set 10 (.int .i64 k) (set_at _ k)).f.fin (t := { Tok.zero with kind := 7, least := 0, most := 1, lazy := b2, at_ := k })
  simp only [setN, Tok.list, Tok.cells, Tok.zero, Cl.zero, Nat.reduceAdd] at FE
  refine HQ.out _ _ ?_
  refine tok_end3 (t := { Tok.zero with kind := 7, least := 0, most := 1, lazy := b2, at_ := k }) rfl FE.z rfl rfl rfl ⟨?_, FE.o⟩
  rw [show oneM p k = .ok { Tok.zero with kind := 7, least := 0, most := 1, lazy := b2, at_ := k } k2 from by rw [oneM_at p k 63 hX.out]; exact lazyM_any p k (k + 1) k2 { Tok.zero with kind := 7, least := 0, most := 1 } b2 rfl (HK.out ▸ HY2.out)]
  exact ⟨rfl, FE.l⟩

end Go.Proofs.Ytkfjnllbjlndlaa
