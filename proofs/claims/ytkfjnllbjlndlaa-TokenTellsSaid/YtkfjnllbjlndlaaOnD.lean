/- The lexer's one: a token. -/
import Derived.Test.YtkfjnllbjlndlaaOnB
import Derived.Deep.CutRange
namespace Go.Proofs.Ytkfjnllbjlndlaa
open Go.RowKit

theorem cntM_form (p : List UInt8) (k : Nat) (t : Tok) (k' : Nat) (h : cntM p k = some (t, k')) : ∃ ln mn, t = { Tok.zero with kind := 7, least := ln, most := mn } := by
  unfold cntM at h
  repeat' split at h
  all_goals first
    | (cases h; done)
    | (injection h with h; injection h with h h'; subst h; exact ⟨_, _, rfl⟩)

set_option maxRecDepth 100000 in
set_option maxHeartbeats 4000000 in
theorem one_cntNo (w : World) (g B : Nat) (A : Option Addr) (c : Nat) (p : List UInt8) (k : Nat) (h : Lx w g B A c p k) (x : Int) (hx : ∃ h : k < p.length, (p[k].toNat : Int) = x) (hc : x = 123) (hE : cntM p (k + 1) = none) :
    Calls Try.prog 34 #[.pointer (some ⟨g, 0, none⟩)] w fun e w' => OneRes w' g B A c p (oneM p k) e ∧ Only g w w' := by
  have H := Lib.hid h
  have hs := h.small
  have hk := h.at_
  have hne := h.x.lt
  have hk' : k < p.length := hx.1
  obtain ⟨hx0, hx1⟩ : 0 ≤ x ∧ x ≤ 255 := by obtain ⟨h1, h2⟩ := hx; have := (p[k]).toNat_lt; omega
  obtain ⟨ad, rfl⟩ : ∃ ad, A = some ad := by obtain ⟨ad, e, _⟩ := h.r.at_ hk'; exact ⟨ad, e⟩
  have hX := Lib.hid (show byteAt p k = x by obtain ⟨h1, h2⟩ := hx; rw [byteAt_lt p k h1, h2])
  obtain ⟨k1, hk1⟩ : ∃ k1, k1 = k + 1 := ⟨_, rfl⟩
  have hw1 : IntKind.i64.wrap ((k : Int) + 1) = (k1 : Int) := by rw [wrap_id _ (by omega) (by omega)]; omega
  have HK := Lib.hid hk1
  have hb0 := fun o => (h.alloc o).r.cell_ hx
  have hc1 := fun o => (h.alloc o).x.cells
  have hf1 := fun o => (h.alloc o).x.frozens
  have FF := Lib.hid (Fr.new h Tok.zero.cells)
  clear hk1 h hx
  subst hc
  have HE := Lib.hid hE
  rw [← HK.out] at HE
  clear hE
  go_enter Try.func34, Try.ntmps34
  refine shut_post fun E0 HQ => ?_
  go_wp2
  go_quiet (fail)
  have F1 := fun n => Ft.one H.out k1 (by have := HK.out; omega) Tok.zero n
  go_upto_region 37 with fail
  go_cut [8] from 59 to 120 (fun s8 wx => ∃ (t2 : Tok) (k2 : Nat), s8 = .bool false ∧ Ft w wx g B (some ad) c p k2 Tok.zero.cells (w.heap.size + 1) t2)
  case first =>
    go_wp2_with (go_at_call 46; refine (count_any _ g B (some ad) c p k1 (F1 _).f.l).mono ?_; rintro e w2 ⟨hres, ho⟩; rw [HE.out] at hres; obtain ⟨t2, k2, rfl, hl2⟩ := hres; have F2 := Lib.hid ((F1 _).only ho hl2); clear ho hl2; have hz2_1 := F2.out.f.z.cells; simp only [Tok.cells, Tok.zero, Cl.zero] at hz2_1; have hz2_2 := F2.out.f.z.frozens; have hy2_1 := F2.out.b.cells; simp only [Tok.cells, Tok.zero, Cl.zero] at hy2_1; have hy2_2 := F2.out.b.frozens; have hlt := F2.out.lt; unfold Tok.v)
    have F3 := F2.out.put t2
    simp only [setN, Tok.list, Nat.reduceAdd] at F3
    go_meet
    exact ⟨t2, k2, rfl, F3⟩
  case rest =>
    obtain ⟨t2, k2, rfl, hF⟩ := hcut
    have F4 := Lib.hid hF
    clear hF
    have hz4_1 := F4.out.f.z.cells; simp only [Tok.cells, Tok.zero, Cl.zero] at hz4_1; have hz4_2 := F4.out.f.z.frozens; have hy4_1 := F4.out.b.cells; unfold Tok.cells at hy4_1; have hy4_2 := F4.out.b.frozens; have hlt := F4.out.lt
    go_wp2
    have FE := (F4.out).f.fin (t := t2)
    simp only [setN, Tok.list, Tok.cells, Nat.reduceAdd] at FE
    refine HQ.out _ _ ?_
    refine tok_end3 (t := t2) rfl FE.z rfl rfl rfl ⟨?_, FE.o⟩
    rw [show oneM p k = .bad k 43 from by rw [oneM_at p k 123 hX.out]; have h := HE.out; rw [HK.out] at h; simp [h]]
    exact ⟨_, _, rfl, FE.l, by decide⟩

set_option maxRecDepth 100000 in
set_option maxHeartbeats 4000000 in
theorem one_cntYes (w : World) (g B : Nat) (A : Option Addr) (c : Nat) (p : List UInt8) (k : Nat) (h : Lx w g B A c p k) (x : Int) (hx : ∃ h : k < p.length, (p[k].toNat : Int) = x) (hc : x = 123) (ln mn : Int) (k2 : Nat) (hE : cntM p (k + 1) = some ({ Tok.zero with kind := 7, least := ln, most := mn }, k2)) :
    Calls Try.prog 34 #[.pointer (some ⟨g, 0, none⟩)] w fun e w' => OneRes w' g B A c p (oneM p k) e ∧ Only g w w' := by
  have H := Lib.hid h
  have hs := h.small
  have hk := h.at_
  have hne := h.x.lt
  have hk' : k < p.length := hx.1
  obtain ⟨hx0, hx1⟩ : 0 ≤ x ∧ x ≤ 255 := by obtain ⟨h1, h2⟩ := hx; have := (p[k]).toNat_lt; omega
  obtain ⟨ad, rfl⟩ : ∃ ad, A = some ad := by obtain ⟨ad, e, _⟩ := h.r.at_ hk'; exact ⟨ad, e⟩
  have hX := Lib.hid (show byteAt p k = x by obtain ⟨h1, h2⟩ := hx; rw [byteAt_lt p k h1, h2])
  obtain ⟨k1, hk1⟩ : ∃ k1, k1 = k + 1 := ⟨_, rfl⟩
  have hw1 : IntKind.i64.wrap ((k : Int) + 1) = (k1 : Int) := by rw [wrap_id _ (by omega) (by omega)]; omega
  have HK := Lib.hid hk1
  have hb0 := fun o => (h.alloc o).r.cell_ hx
  have hc1 := fun o => (h.alloc o).x.cells
  have hf1 := fun o => (h.alloc o).x.frozens
  have FF := Lib.hid (Fr.new h Tok.zero.cells)
  clear hk1 h hx
  subst hc
  have HE := Lib.hid hE
  rw [← HK.out] at HE
  clear hE
  go_enter Try.func34, Try.ntmps34
  refine shut_post fun E0 HQ => ?_
  go_wp2
  go_quiet (fail)
  have F1 := fun n => Ft.one H.out k1 (by have := HK.out; omega) Tok.zero n
  go_upto_region 37 with fail
  go_cut [8] from 59 to 120 (fun s8 wx => s8 = .bool true ∧ Ft w wx g B (some ad) c p k2 Tok.zero.cells (w.heap.size + 1) { Tok.zero with kind := 7, least := ln, most := mn })
  case first =>
    go_wp2_with (go_at_call 46; refine (count_any _ g B (some ad) c p k1 (F1 _).f.l).mono ?_; rintro e w2 ⟨hres, ho⟩; rw [HE.out] at hres; obtain ⟨rfl, hl2⟩ := hres; have F2 := Lib.hid ((F1 _).only ho hl2); clear ho hl2; have hz2_1 := F2.out.f.z.cells; simp only [Tok.cells, Tok.zero, Cl.zero] at hz2_1; have hz2_2 := F2.out.f.z.frozens; have hy2_1 := F2.out.b.cells; simp only [Tok.cells, Tok.zero, Cl.zero] at hy2_1; have hy2_2 := F2.out.b.frozens; have hlt := F2.out.lt; unfold Tok.v)
    have F3 := F2.out.put { Tok.zero with kind := 7, least := ln, most := mn }
    simp only [setN, Tok.list, Tok.zero, Cl.zero, Nat.reduceAdd] at F3
    go_meet
    exact ⟨rfl, F3⟩
  case rest =>
    obtain ⟨rfl, hF⟩ := hcut
    have F4 := Lib.hid hF
    clear hF
    have hz4_1 := F4.out.f.z.cells; simp only [Tok.cells, Tok.zero, Cl.zero] at hz4_1; have hz4_2 := F4.out.f.z.frozens; have hy4_1 := F4.out.b.cells; simp only [Tok.cells, Tok.zero, Cl.zero] at hy4_1; have hy4_2 := F4.out.b.frozens; have hlt := F4.out.lt
    go_wp2_with (go_at_call 45; refine (comes_any _ g B (some ad) c p k2 63 (F4.out).f.l (by decide)).mono ?_; rintro e w5 ⟨b5, k5, rfl, hl5, ho5, hy5⟩; have F5 := Lib.hid ((F4.out).only ho5 hl5); have HY5 := Lib.hid hy5; clear hl5 ho5 hy5; have hz5_1 := F5.out.f.z.cells; simp only [Tok.cells, Tok.zero, Cl.zero] at hz5_1; have hz5_2 := F5.out.f.z.frozens; have hy5_1 := F5.out.b.cells; simp only [Tok.cells, Tok.zero, Cl.zero] at hy5_1; have hy5_2 := F5.out.b.frozens; have hlt := F5.out.lt)
    have FE := (((F5.out.set 9 (.bool b5) (set_lazy _ b5)).set 10 (.int .i64 k) (set_at _ k))).f.fin (t := { Tok.zero with kind := 7, least := ln, most := mn, lazy := b5, at_ := k })
    simp only [setN, Tok.list, Tok.cells, Tok.zero, Cl.zero, Nat.reduceAdd] at FE
    refine HQ.out _ _ ?_
    refine tok_end3 (t := { Tok.zero with kind := 7, least := ln, most := mn, lazy := b5, at_ := k }) rfl FE.z rfl rfl rfl ⟨?_, FE.o⟩
    rw [show oneM p k = .ok { Tok.zero with kind := 7, least := ln, most := mn, lazy := b5, at_ := k } k5 from by rw [oneM_at p k 123 hX.out]; have h := HE.out; rw [HK.out] at h; simp only [h]; exact lazyM_any p k k2 k5 { Tok.zero with kind := 7, least := ln, most := mn } b5 rfl HY5.out]
    exact ⟨rfl, FE.l⟩

end Go.Proofs.Ytkfjnllbjlndlaa
