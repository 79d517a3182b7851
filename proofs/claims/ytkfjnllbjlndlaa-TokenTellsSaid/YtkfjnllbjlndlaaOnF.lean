/- The lexer's one: a token. -/
import Derived.Test.YtkfjnllbjlndlaaOnA
import Derived.Test.YtkfjnllbjlndlaaStA
import Derived.Deep.CutBlock
namespace Go.Proofs.Ytkfjnllbjlndlaa
open Go.RowKit

set_option maxRecDepth 100000 in
set_option maxHeartbeats 4000000 in
theorem one_setNo (w : World) (g B : Nat) (A : Option Addr) (c : Nat) (p : List UInt8) (k : Nat) (h : Lx w g B A c p k) (x : Int) (hx : ∃ h : k < p.length, (p[k].toNat : Int) = x) (hc : x = 91) (n : Bool) (hn : n = decide (byteAt p (k + 1) = 94)) (a er : Int) (hr : setM p k n (p.length + 1) (if n then k + 2 else k + 1) true Cl.zero = .bad a er) :
    Calls Try.prog 34 #[.pointer (some ⟨g, 0, none⟩)] w fun e w' => OneRes w' g B A c p (oneM p k) e ∧ Only g w w' := by
  have H := Lib.hid h
  have hs := h.small
  have hk := h.at_
  have hne := h.x.lt
  have hk' : k < p.length := hx.1
  obtain ⟨hx0, hx1⟩ : 0 ≤ x ∧ x ≤ 255 := by obtain ⟨h1, h2⟩ := hx; have := (p[k]).toNat_lt; omega
  obtain ⟨ad, rfl⟩ : ∃ ad, A = some ad := by obtain ⟨ad, e, _⟩ := h.r.at_ hk'; exact ⟨ad, e⟩
  have hX := Lib.hid (show byteAt p k = x by obtain ⟨h1, h2⟩ := hx; rw [byteAt_lt p k h1, h2])
  obtain ⟨k1, hk1⟩ : ∃ k1, k1 = k + 1 := ⟨_, rfl⟩
  have hw1 : IntKind.i64.wrap ((k : Int) + 1) = (k1 : Int) := by rw [wrap_id _ (by omega) (by omega)]; omega
  have HK := Lib.hid hk1
  have hb0 := fun o => (h.alloc o).r.cell_ hx
  have hc1 := fun o => (h.alloc o).x.cells
  have hf1 := fun o => (h.alloc o).x.frozens
  have FF := Lib.hid (Fr.new h Tok.zero.cells)
  clear hk1 h hx
  subst hc
  have HN := Lib.hid hn
  have HR := Lib.hid hr
  rw [← HK.out] at HN
  clear hn hr
  go_enter Try.func34, Try.ntmps34
  refine shut_post fun E0 HQ => ?_
  go_wp2
  go_quiet (fail)
  have F1 := fun n => Ft.one H.out k1 (by have := HK.out; omega) Tok.zero n
  go_upto_region 22 with fail
  go_cut [9, 10, 11] from 68 to 111 (fun s9 s10 s11 wx => ∃ (t2 : Tok) (k2 z9 : Nat), s9 = .pointer (some ⟨z9, 0, none⟩) ∧ s10 = .int .i64 a ∧ s11 = .int .i64 er ∧ Fu w wx g B (some ad) c p k2 Tok.zero.cells (w.heap.size + 1) Tok.zero z9 t2 ∧ er ≠ 0)
  case first =>
    go_wp2_with (go_at_call 44; refine (set_any _ g B (some ad) c p k k1 HK.out (F1 _).f.l n HN.out).mono ?_; rintro e w2 ⟨hres, ho⟩; rw [show (if n then k1 + 1 else k1) = (if n then k + 2 else k + 1) from by have := HK.out; split <;> omega, HR.out] at hres; obtain ⟨t2, k2, rfl, hl2, her⟩ := hres; have F2 := Lib.hid ((F1 _).only ho hl2); clear ho hl2; have hz2_1 := F2.out.f.z.cells; simp only [Tok.cells, Tok.zero, Cl.zero] at hz2_1; have hz2_2 := F2.out.f.z.frozens; have hy2_1 := F2.out.b.cells; simp only [Tok.cells, Tok.zero, Cl.zero] at hy2_1; have hy2_2 := F2.out.b.frozens; have hlt := F2.out.lt; unfold Tok.v)
    go_meet
    exact ⟨t2, k2, _, rfl, rfl, rfl, Fu.new F2.out t2, her⟩
  case rest =>
    obtain ⟨t2, k2, z9, rfl, rfl, rfl, hF, her⟩ := hcut
    have HER := Lib.hid her
    have her1 : (er != 0) = true := by simpa using her
    have her2 : (er == 0) = false := by simpa using her
    clear her
    have F4 := Lib.hid hF
    clear hF
    have hz4_1 := F4.out.f.f.z.cells; simp only [Tok.cells, Tok.zero, Cl.zero] at hz4_1; have hz4_2 := F4.out.f.f.z.frozens; have hy4_1 := F4.out.f.b.cells; simp only [Tok.cells, Tok.zero, Cl.zero] at hy4_1; have hy4_2 := F4.out.f.b.frozens; have hv4_1 := F4.out.b.cells; unfold Tok.cells at hv4_1; have hv4_2 := F4.out.b.frozens
    go_wp2
    have FE := (F4.out.f).f.fin (t := Tok.zero)
    simp only [setN, Tok.list, Tok.cells, Tok.zero, Cl.zero, Nat.reduceAdd] at FE
    refine HQ.out _ _ ?_
    refine tok_end3 (t := Tok.zero) rfl FE.z rfl rfl rfl ⟨?_, FE.o⟩
    rw [show oneM p k = .bad a er from by rw [oneM_at p k 91 hX.out]; have h := HR.out; have h2 := HN.out; rw [HK.out] at h2; simp only [← h2, h]; rfl]
    exact ⟨_, _, rfl, FE.l, HER.out⟩

set_option maxRecDepth 100000 in
set_option maxHeartbeats 4000000 in
theorem one_setYes (w : World) (g B : Nat) (A : Option Addr) (c : Nat) (p : List UInt8) (k : Nat) (h : Lx w g B A c p k) (x : Int) (hx : ∃ h : k < p.length, (p[k].toNat : Int) = x) (hc : x = 91) (n : Bool) (hn : n = decide (byteAt p (k + 1) = 94)) (cl : Cl) (k2 : Nat) (hr : setM p k n (p.length + 1) (if n then k + 2 else k + 1) true Cl.zero = .ok cl k2) :
    Calls Try.prog 34 #[.pointer (some ⟨g, 0, none⟩)] w fun e w' => OneRes w' g B A c p (oneM p k) e ∧ Only g w w' := by
  have H := Lib.hid h
  have hs := h.small
  have hk := h.at_
  have hne := h.x.lt
  have hk' : k < p.length := hx.1
  obtain ⟨hx0, hx1⟩ : 0 ≤ x ∧ x ≤ 255 := by obtain ⟨h1, h2⟩ := hx; have := (p[k]).toNat_lt; omega
  obtain ⟨ad, rfl⟩ : ∃ ad, A = some ad := by obtain ⟨ad, e, _⟩ := h.r.at_ hk'; exact ⟨ad, e⟩
  have hX := Lib.hid (show byteAt p k = x by obtain ⟨h1, h2⟩ := hx; rw [byteAt_lt p k h1, h2])
  obtain ⟨k1, hk1⟩ : ∃ k1, k1 = k + 1 := ⟨_, rfl⟩
  have hw1 : IntKind.i64.wrap ((k : Int) + 1) = (k1 : Int) := by rw [wrap_id _ (by omega) (by omega)]; omega
  have HK := Lib.hid hk1
  have hb0 := fun o => (h.alloc o).r.cell_ hx
  have hc1 := fun o => (h.alloc o).x.cells
  have hf1 := fun o => (h.alloc o).x.frozens
  have FF := Lib.hid (Fr.new h Tok.zero.cells)
  clear hk1 h hx
  subst hc
  have HN := Lib.hid hn
  have HR := Lib.hid hr
  rw [← HK.out] at HN
  clear hn hr
  go_enter Try.func34, Try.ntmps34
  refine shut_post fun E0 HQ => ?_
  go_wp2
  go_quiet (fail)
  have F1 := fun n => Ft.one H.out k1 (by have := HK.out; omega) Tok.zero n
  go_upto_block 0 with fail
  go_cut [] from 8 to 111 (fun wx => Ft w wx g B (some ad) c p k2 Tok.zero.cells (w.heap.size + 1) { Tok.zero with kind := 2, cls := cl, not_ := n })
  case first =>
    go_upto_region 22 with fail
    go_cut [9, 10, 11] from 68 to 111 (fun s9 s10 s11 wx => ∃ (z9 : Nat), s9 = .pointer (some ⟨z9, 0, none⟩) ∧ s10 = .int .i64 0 ∧ s11 = .int .i64 0 ∧ Fu w wx g B (some ad) c p k2 Tok.zero.cells (w.heap.size + 1) Tok.zero z9 { Tok.zero with kind := 2, cls := cl, not_ := n })
    case first =>
      go_wp2_with (go_at_call 44; refine (set_any _ g B (some ad) c p k k1 HK.out (F1 _).f.l n HN.out).mono ?_; rintro e w2 ⟨hres, ho⟩; rw [show (if n then k1 + 1 else k1) = (if n then k + 2 else k + 1) from by have := HK.out; split <;> omega, HR.out] at hres; obtain ⟨rfl, hl2⟩ := hres; have F2 := Lib.hid ((F1 _).only ho hl2); clear ho hl2; have hz2_1 := F2.out.f.z.cells; simp only [Tok.cells, Tok.zero, Cl.zero] at hz2_1; have hz2_2 := F2.out.f.z.frozens; have hy2_1 := F2.out.b.cells; simp only [Tok.cells, Tok.zero, Cl.zero] at hy2_1; have hy2_2 := F2.out.b.frozens; have hlt := F2.out.lt; unfold Tok.v)
      go_meet
      exact ⟨_, rfl, rfl, rfl, Fu.new F2.out { Tok.zero with kind := 2, cls := cl, not_ := n }⟩
    case rest =>
      obtain ⟨z9, rfl, rfl, rfl, hF⟩ := hcut
      have F4 := Lib.hid hF
      clear hF
      have hz4_1 := F4.out.f.f.z.cells; simp only [Tok.cells, Tok.zero, Cl.zero] at hz4_1; have hz4_2 := F4.out.f.f.z.frozens; have hy4_1 := F4.out.f.b.cells; simp only [Tok.cells, Tok.zero, Cl.zero] at hy4_1; have hy4_2 := F4.out.f.b.frozens; have hv4_1 := F4.out.b.cells; simp only [Tok.cells, Tok.zero] at hv4_1; have hv4_2 := F4.out.b.frozens
      go_wp2_with fail
      have F5 := F4.out.f.put { Tok.zero with kind := 2, cls := cl, not_ := n }
      simp only [setN, Tok.list, Tok.zero, Cl.zero, Nat.reduceAdd] at F5
      go_meet
      exact F5
  case rest =>
    have F5 := Lib.hid hcut
    clear hcut
    have hz5_1 := F5.out.f.z.cells; simp only [Tok.cells, Tok.zero, Cl.zero] at hz5_1; have hz5_2 := F5.out.f.z.frozens; have hy5_1 := F5.out.b.cells; simp only [Tok.cells, Tok.zero, Cl.zero] at hy5_1; have hy5_2 := F5.out.b.frozens; have hlt5 := F5.out.lt
    go_wp2
    have FE := ((F5.out.set 10 (.int .i64 k) (set_at _ k))).f.fin (t := { Tok.zero with kind := 2, cls := cl, not_ := n, at_ := k })
    simp only [setN, Tok.list, Tok.cells, Tok.zero, Cl.zero, Nat.reduceAdd] at FE
    refine HQ.out _ _ ?_
    refine tok_end3 (t := { Tok.zero with kind := 2, cls := cl, not_ := n, at_ := k }) rfl FE.z rfl rfl rfl ⟨?_, FE.o⟩
    rw [show oneM p k = .ok { Tok.zero with kind := 2, cls := cl, not_ := n, at_ := k } k2 from by rw [oneM_at p k 91 hX.out]; have h := HR.out; have h2 := HN.out; rw [HK.out] at h2; simp only [← h2, h]; rfl]
    exact ⟨rfl, FE.l⟩

end Go.Proofs.Ytkfjnllbjlndlaa
