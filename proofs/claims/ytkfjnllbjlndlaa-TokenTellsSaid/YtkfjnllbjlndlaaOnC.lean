/- The lexer's one: a token. -/
import Derived.Test.YtkfjnllbjlndlaaOnB
import Derived.Deep.CutRange
namespace Go.Proofs.Ytkfjnllbjlndlaa
open Go.RowKit

set_option maxRecDepth 100000 in
set_option maxHeartbeats 4000000 in
theorem one_escNo (w : World) (g B : Nat) (A : Option Addr) (c : Nat) (p : List UInt8) (k : Nat) (h : Lx w g B A c p k) (x : Int) (hx : ∃ h : k < p.length, (p[k].toNat : Int) = x) (hc : x = 92) (hE : escM p (k + 1) = none) :
    Calls Try.prog 34 #[.pointer (some ⟨g, 0, none⟩)] w fun e w' => OneRes w' g B A c p (oneM p k) e ∧ Only g w w' := by
  have H := Lib.hid h
  have hs := h.small
  have hk := h.at_
  have hne := h.x.lt
  have hk' : k < p.length := hx.1
  obtain ⟨hx0, hx1⟩ : 0 ≤ x ∧ x ≤ 255 := by obtain ⟨h1, h2⟩ := hx; have := (p[k]).toNat_lt; omega
  obtain ⟨ad, rfl⟩ : ∃ ad, A = some ad := by obtain ⟨ad, e, _⟩ := h.r.at_ hk'; exact ⟨ad, e⟩
  have hX := Lib.hid (show byteAt p k = x by obtain ⟨h1, h2⟩ := hx; rw [byteAt_lt p k h1, h2])
  obtain ⟨k1, hk1⟩ : ∃ k1, k1 = k + 1 := ⟨_, rfl⟩
  have hw1 : IntKind.i64.wrap ((k : Int) + 1) = (k1 : Int) := by rw [wrap_id _ (by omega) (by omega)]; omega
  have HK := Lib.hid hk1
  have hb0 := fun o => (h.alloc o).r.cell_ hx
  have hc1 := fun o => (h.alloc o).x.cells
  have hf1 := fun o => (h.alloc o).x.frozens
  have FF := Lib.hid (Fr.new h Tok.zero.cells)
  clear hk1 h hx
  subst hc
  have HE := Lib.hid hE
  rw [← HK.out] at HE
  clear hE
  go_enter Try.func34, Try.ntmps34
  refine shut_post fun E0 HQ => ?_
  go_wp2
  go_quiet (fail)
  have F1 := fun n => Ft.one H.out k1 (by have := HK.out; omega) Tok.zero n
  go_upto_region 19 with fail
  go_cut [8] from 59 to 120 (fun s8 wx => ∃ (t2 : Tok) (k2 : Nat), s8 = .bool false ∧ Ft w wx g B (some ad) c p k2 Tok.zero.cells (w.heap.size + 1) t2)
  case first =>
    go_wp2_with (go_at_call 43; refine (escape_any _ g B (some ad) c p k1 (F1 _).f.l).mono ?_; rintro e w2 ⟨hres, ho⟩; rw [HE.out] at hres; obtain ⟨t2, k2, rfl, hl2⟩ := hres; have F2 := Lib.hid ((F1 _).only ho hl2); clear ho hl2; have hz2_1 := F2.out.f.z.cells; simp only [Tok.cells, Tok.zero, Cl.zero] at hz2_1; have hz2_2 := F2.out.f.z.frozens; have hy2_1 := F2.out.b.cells; simp only [Tok.cells, Tok.zero, Cl.zero] at hy2_1; have hy2_2 := F2.out.b.frozens; have hlt := F2.out.lt; unfold Tok.v)
    have F3 := F2.out.put t2
    simp only [setN, Tok.list, Nat.reduceAdd] at F3
    go_meet
    exact ⟨t2, k2, rfl, F3⟩
  case rest =>
    obtain ⟨t2, k2, rfl, hF⟩ := hcut
    have F4 := Lib.hid hF
    clear hF
    have hz4_1 := F4.out.f.z.cells; simp only [Tok.cells, Tok.zero, Cl.zero] at hz4_1; have hz4_2 := F4.out.f.z.frozens; have hy4_1 := F4.out.b.cells; unfold Tok.cells at hy4_1; have hy4_2 := F4.out.b.frozens; have hlt := F4.out.lt
    go_wp2
    have FE := (F4.out).f.fin (t := t2)
    simp only [setN, Tok.list, Tok.cells, Nat.reduceAdd] at FE
    refine HQ.out _ _ ?_
    refine tok_end3 (t := t2) rfl FE.z rfl rfl rfl ⟨?_, FE.o⟩
    rw [show oneM p k = .bad k 40 from by rw [oneM_at p k 92 hX.out]; have h := HE.out; rw [HK.out] at h; simp [h]]
    exact ⟨_, _, rfl, FE.l, by decide⟩

set_option maxRecDepth 100000 in
set_option maxHeartbeats 4000000 in
theorem one_escYes (w : World) (g B : Nat) (A : Option Addr) (c : Nat) (p : List UInt8) (k : Nat) (h : Lx w g B A c p k) (x : Int) (hx : ∃ h : k < p.length, (p[k].toNat : Int) = x) (hc : x = 92) (t2 : Tok) (k2 : Nat) (hE : escM p (k + 1) = some (t2, k2)) :
    Calls Try.prog 34 #[.pointer (some ⟨g, 0, none⟩)] w fun e w' => OneRes w' g B A c p (oneM p k) e ∧ Only g w w' := by
  have H := Lib.hid h
  have hs := h.small
  have hk := h.at_
  have hne := h.x.lt
  have hk' : k < p.length := hx.1
  obtain ⟨hx0, hx1⟩ : 0 ≤ x ∧ x ≤ 255 := by obtain ⟨h1, h2⟩ := hx; have := (p[k]).toNat_lt; omega
  obtain ⟨ad, rfl⟩ : ∃ ad, A = some ad := by obtain ⟨ad, e, _⟩ := h.r.at_ hk'; exact ⟨ad, e⟩
  have hX := Lib.hid (show byteAt p k = x by obtain ⟨h1, h2⟩ := hx; rw [byteAt_lt p k h1, h2])
  obtain ⟨k1, hk1⟩ : ∃ k1, k1 = k + 1 := ⟨_, rfl⟩
  have hw1 : IntKind.i64.wrap ((k : Int) + 1) = (k1 : Int) := by rw [wrap_id _ (by omega) (by omega)]; omega
  have HK := Lib.hid hk1
  have hb0 := fun o => (h.alloc o).r.cell_ hx
  have hc1 := fun o => (h.alloc o).x.cells
  have hf1 := fun o => (h.alloc o).x.frozens
  have FF := Lib.hid (Fr.new h Tok.zero.cells)
  clear hk1 h hx
  subst hc
  have HE := Lib.hid hE
  rw [← HK.out] at HE
  clear hE
  have hkd : ¬ t2.kind = 7 := (by have := (escM_facts p k1 t2 k2 HE.out).2.2.2; omega)
  go_enter Try.func34, Try.ntmps34
  refine shut_post fun E0 HQ => ?_
  go_wp2
  go_quiet (fail)
  have F1 := fun n => Ft.one H.out k1 (by have := HK.out; omega) Tok.zero n
  go_upto_region 19 with fail
  go_cut [8] from 59 to 120 (fun s8 wx => s8 = .bool true ∧ Ft w wx g B (some ad) c p k2 Tok.zero.cells (w.heap.size + 1) t2)
  case first =>
    go_wp2_with (go_at_call 43; refine (escape_any _ g B (some ad) c p k1 (F1 _).f.l).mono ?_; rintro e w2 ⟨hres, ho⟩; rw [HE.out] at hres; obtain ⟨rfl, hl2⟩ := hres; have F2 := Lib.hid ((F1 _).only ho hl2); clear ho hl2; have hz2_1 := F2.out.f.z.cells; simp only [Tok.cells, Tok.zero, Cl.zero] at hz2_1; have hz2_2 := F2.out.f.z.frozens; have hy2_1 := F2.out.b.cells; simp only [Tok.cells, Tok.zero, Cl.zero] at hy2_1; have hy2_2 := F2.out.b.frozens; have hlt := F2.out.lt; unfold Tok.v)
    have F3 := F2.out.put t2
    simp only [setN, Tok.list, Nat.reduceAdd] at F3
    go_meet
    exact ⟨rfl, F3⟩
  case rest =>
    obtain ⟨rfl, hF⟩ := hcut
    have F4 := Lib.hid hF
    clear hF
    have hz4_1 := F4.out.f.z.cells; simp only [Tok.cells, Tok.zero, Cl.zero] at hz4_1; have hz4_2 := F4.out.f.z.frozens; have hy4_1 := F4.out.b.cells; unfold Tok.cells at hy4_1; have hy4_2 := F4.out.b.frozens; have hlt := F4.out.lt
    go_wp2
    have FE := ((F4.out.set 10 (.int .i64 k) (set_at t2 k))).f.fin (t := { t2 with at_ := k })
    simp only [setN, Tok.list, Tok.cells, Nat.reduceAdd] at FE
    refine HQ.out _ _ ?_
    refine tok_end3 (t := { t2 with at_ := k }) rfl FE.z rfl rfl rfl ⟨?_, FE.o⟩
    rw [show oneM p k = .ok { t2 with at_ := k } k2 from by rw [oneM_at p k 92 hX.out]; have h := HE.out; rw [HK.out] at h; simp [h]]
    exact ⟨rfl, FE.l⟩

end Go.Proofs.Ytkfjnllbjlndlaa
