/- The lexer's one: a token. -/
import Derived.Test.YtkfjnllbjlndlaaOnB
import Derived.Deep.CutRange
namespace Go.Proofs.Ytkfjnllbjlndlaa
open Go.RowKit

set_option maxRecDepth 100000 in
set_option maxHeartbeats 4000000 in
theorem one_grpNo (w : World) (g B : Nat) (A : Option Addr) (c : Nat) (p : List UInt8) (k : Nat) (h : Lx w g B A c p k) (x : Int) (hx : ∃ h : k < p.length, (p[k].toNat : Int) = x) (hc : x = 40) (hQ : byteAt p (k + 1) ≠ 63) :
    Calls Try.prog 34 #[.pointer (some ⟨g, 0, none⟩)] w fun e w' => OneRes w' g B A c p (oneM p k) e ∧ Only g w w' := by
  have H := Lib.hid h
  have hs := h.small
  have hk := h.at_
  have hne := h.x.lt
  have hk' : k < p.length := hx.1
  obtain ⟨hx0, hx1⟩ : 0 ≤ x ∧ x ≤ 255 := by obtain ⟨h1, h2⟩ := hx; have := (p[k]).toNat_lt; omega
  obtain ⟨ad, rfl⟩ : ∃ ad, A = some ad := by obtain ⟨ad, e, _⟩ := h.r.at_ hk'; exact ⟨ad, e⟩
  have hX := Lib.hid (show byteAt p k = x by obtain ⟨h1, h2⟩ := hx; rw [byteAt_lt p k h1, h2])
  obtain ⟨k1, hk1⟩ : ∃ k1, k1 = k + 1 := ⟨_, rfl⟩
  have hw1 : IntKind.i64.wrap ((k : Int) + 1) = (k1 : Int) := by rw [wrap_id _ (by omega) (by omega)]; omega
  have HK := Lib.hid hk1
  have hb0 := fun o => (h.alloc o).r.cell_ hx
  have hc1 := fun o => (h.alloc o).x.cells
  have hf1 := fun o => (h.alloc o).x.frozens
  have FF := Lib.hid (Fr.new h Tok.zero.cells)
  clear hk1 h hx
  subst hc
  have HG := Lib.hid hQ
  rw [← HK.out] at HG
  clear hQ
  go_enter Try.func34, Try.ntmps34
  refine shut_post fun E0 HQ => ?_
  go_wp2
  go_quiet (fail)
  have F1 := fun n => Ft.one H.out k1 (by have := HK.out; omega) { Tok.zero with kind := 4 } n
  go_upto_region 28 with fail
  go_cut [88] from 82 to 120 (fun s88 wx => ∃ k', s88 = .bool false ∧ Ft w wx g B (some ad) c p k' Tok.zero.cells (w.heap.size + 1) { Tok.zero with kind := 4 } ∧ k' = k1)
  case first =>
    go_wp2_with (go_at_call 45; refine (comes_any _ g B (some ad) c p k1 63 (F1 _).f.l (by decide)).mono ?_; rintro e w2 ⟨b2, k2, rfl, hl2, ho2, hy2⟩; have hb2 := Lib.hid (show b2 = false ∧ k2 = k1 from (by cases b2 with | true => exact absurd (hy2.1 rfl).1 HG.out | false => exact ⟨rfl, (hy2.2 rfl).2⟩)); obtain ⟨rfl, rfl⟩ := hb2.out; clear hb2; have F2 := Lib.hid ((F1 _).only ho2 hl2); clear hl2 ho2 hy2; have hz2_1 := F2.out.f.z.cells; simp only [Tok.cells, Tok.zero, Cl.zero] at hz2_1; have hz2_2 := F2.out.f.z.frozens; have hy2_1 := F2.out.b.cells; simp only [Tok.cells, Tok.zero, Cl.zero] at hy2_1; have hy2_2 := F2.out.b.frozens; have hlt := F2.out.lt)
    go_meet
    exact ⟨_, rfl, F2.out, rfl⟩
  case rest =>
    obtain ⟨k', rfl, hF, hk4⟩ := hcut
    have F4 := Lib.hid hF
    clear hF
    have hz4_1 := F4.out.f.z.cells; simp only [Tok.cells, Tok.zero, Cl.zero] at hz4_1; have hz4_2 := F4.out.f.z.frozens; have hy4_1 := F4.out.b.cells; simp only [Tok.cells, Tok.zero, Cl.zero] at hy4_1; have hy4_2 := F4.out.b.frozens; have hlt := F4.out.lt
    go_wp2
    have hk4 := Lib.hid (hk4.trans HK.out)
    have FE := ((F4.out.set 10 (.int .i64 k) (set_at _ k))).f.fin (t := { Tok.zero with kind := 4, at_ := k })
    simp only [setN, Tok.list, Tok.cells, Tok.zero, Cl.zero, Nat.reduceAdd] at FE
    refine HQ.out _ _ ?_
    refine tok_end3 (t := { Tok.zero with kind := 4, at_ := k }) rfl FE.z rfl rfl rfl ⟨?_, FE.o⟩
    rw [show oneM p k = .ok { Tok.zero with kind := 4, at_ := k } (k + 1) from by rw [oneM_at p k 40 hX.out]; have h := HG.out; rw [HK.out] at h; simp [h]]
    exact ⟨rfl, hk4.out ▸ FE.l⟩

set_option maxRecDepth 100000 in
set_option maxHeartbeats 4000000 in
theorem one_grpYes (w : World) (g B : Nat) (A : Option Addr) (c : Nat) (p : List UInt8) (k : Nat) (h : Lx w g B A c p k) (x : Int) (hx : ∃ h : k < p.length, (p[k].toNat : Int) = x) (hc : x = 40) (hQ : byteAt p (k + 1) = 63) (hR : byteAt p (k + 2) = 58) :
    Calls Try.prog 34 #[.pointer (some ⟨g, 0, none⟩)] w fun e w' => OneRes w' g B A c p (oneM p k) e ∧ Only g w w' := by
  have H := Lib.hid h
  have hs := h.small
  have hk := h.at_
  have hne := h.x.lt
  have hk' : k < p.length := hx.1
  obtain ⟨hx0, hx1⟩ : 0 ≤ x ∧ x ≤ 255 := by obtain ⟨h1, h2⟩ := hx; have := (p[k]).toNat_lt; omega
  obtain ⟨ad, rfl⟩ : ∃ ad, A = some ad := by obtain ⟨ad, e, _⟩ := h.r.at_ hk'; exact ⟨ad, e⟩
  have hX := Lib.hid (show byteAt p k = x by obtain ⟨h1, h2⟩ := hx; rw [byteAt_lt p k h1, h2])
  obtain ⟨k1, hk1⟩ : ∃ k1, k1 = k + 1 := ⟨_, rfl⟩
  have hw1 : IntKind.i64.wrap ((k : Int) + 1) = (k1 : Int) := by rw [wrap_id _ (by omega) (by omega)]; omega
  have HK := Lib.hid hk1
  have hb0 := fun o => (h.alloc o).r.cell_ hx
  have hc1 := fun o => (h.alloc o).x.cells
  have hf1 := fun o => (h.alloc o).x.frozens
  have FF := Lib.hid (Fr.new h Tok.zero.cells)
  clear hk1 h hx
  subst hc
  have HG := Lib.hid hQ
  rw [← HK.out] at HG
  clear hQ
  have HR := Lib.hid (show byteAt p (k1 + 1) = 58 from by rw [HK.out]; exact hR)
  clear hR
  go_enter Try.func34, Try.ntmps34
  refine shut_post fun E0 HQ => ?_
  go_wp2
  go_quiet (fail)
  have F1 := fun n => Ft.one H.out k1 (by have := HK.out; omega) { Tok.zero with kind := 4 } n
  go_upto_region 28 with fail
  go_cut [88] from 82 to 120 (fun s88 wx => ∃ k', s88 = .bool false ∧ Ft w wx g B (some ad) c p k' Tok.zero.cells (w.heap.size + 1) { Tok.zero with kind := 4 } ∧ k' = k1 + 2)
  case first =>
    go_wp2_with (first | (go_at_call 45; refine (comes_any _ g B (some ad) c p k2 58 (F2.out).f.l (by decide)).mono ?_; rintro e w3 ⟨b3, k3, rfl, hl3, ho3, hy3⟩; have hb3 := Lib.hid (show b3 = true ∧ k3 = k2 + 1 from (by cases b3 with | true => exact ⟨rfl, (hy3.1 rfl).2.1⟩ | false => exact absurd (HK2.out ▸ HR.out) (hy3.2 rfl).1)); obtain ⟨rfl, rfl⟩ := hb3.out; clear hb3; have F3 := Lib.hid ((F2.out).only ho3 hl3); clear hl3 ho3 hy3; have hz3_1 := F3.out.f.z.cells; simp only [Tok.cells, Tok.zero, Cl.zero] at hz3_1; have hz3_2 := F3.out.f.z.frozens; have hy3_1 := F3.out.b.cells; simp only [Tok.cells, Tok.zero, Cl.zero] at hy3_1; have hy3_2 := F3.out.b.frozens; have hlt := F3.out.lt) | (go_at_call 45; refine (comes_any _ g B (some ad) c p k1 63 (F1 _).f.l (by decide)).mono ?_; rintro e w2 ⟨b2, k2, rfl, hl2, ho2, hy2⟩; have hb2 := Lib.hid (show b2 = true ∧ k2 = k1 + 1 from (by cases b2 with | true => exact ⟨rfl, (hy2.1 rfl).2.1⟩ | false => exact absurd HG.out (hy2.2 rfl).1)); obtain ⟨rfl, hk2⟩ := hb2.out; clear hb2; have HK2 := Lib.hid hk2; clear hk2; have F2 := Lib.hid ((F1 _).only ho2 hl2); clear hl2 ho2 hy2; have hz2_1 := F2.out.f.z.cells; simp only [Tok.cells, Tok.zero, Cl.zero] at hz2_1; have hz2_2 := F2.out.f.z.frozens; have hy2_1 := F2.out.b.cells; simp only [Tok.cells, Tok.zero, Cl.zero] at hy2_1; have hy2_2 := F2.out.b.frozens; have hlt := F2.out.lt))
    go_meet
    exact ⟨_, rfl, F3.out, by have := HK2.out; omega⟩
  case rest =>
    obtain ⟨k', rfl, hF, hk4⟩ := hcut
    have F4 := Lib.hid hF
    clear hF
    have hz4_1 := F4.out.f.z.cells; simp only [Tok.cells, Tok.zero, Cl.zero] at hz4_1; have hz4_2 := F4.out.f.z.frozens; have hy4_1 := F4.out.b.cells; simp only [Tok.cells, Tok.zero, Cl.zero] at hy4_1; have hy4_2 := F4.out.b.frozens; have hlt := F4.out.lt
    go_wp2
    have hk4 := Lib.hid (show k' = k + 3 from by have := HK.out; omega)
    have FE := ((F4.out.set 10 (.int .i64 k) (set_at _ k))).f.fin (t := { Tok.zero with kind := 4, at_ := k })
    simp only [setN, Tok.list, Tok.cells, Tok.zero, Cl.zero, Nat.reduceAdd] at FE
    refine HQ.out _ _ ?_
    refine tok_end3 (t := { Tok.zero with kind := 4, at_ := k }) rfl FE.z rfl rfl rfl ⟨?_, FE.o⟩
    rw [show oneM p k = .ok { Tok.zero with kind := 4, at_ := k } (k + 3) from by rw [oneM_at p k 40 hX.out]; have h := HG.out; rw [HK.out] at h; have h2 := HR.out; rw [HK.out] at h2; simp [h, h2]]
    exact ⟨rfl, hk4.out ▸ FE.l⟩

set_option maxRecDepth 100000 in
set_option maxHeartbeats 4000000 in
theorem one_grpBad (w : World) (g B : Nat) (A : Option Addr) (c : Nat) (p : List UInt8) (k : Nat) (h : Lx w g B A c p k) (x : Int) (hx : ∃ h : k < p.length, (p[k].toNat : Int) = x) (hc : x = 40) (hQ : byteAt p (k + 1) = 63) (hR : byteAt p (k + 2) ≠ 58) :
    Calls Try.prog 34 #[.pointer (some ⟨g, 0, none⟩)] w fun e w' => OneRes w' g B A c p (oneM p k) e ∧ Only g w w' := by
  have H := Lib.hid h
  have hs := h.small
  have hk := h.at_
  have hne := h.x.lt
  have hk' : k < p.length := hx.1
  obtain ⟨hx0, hx1⟩ : 0 ≤ x ∧ x ≤ 255 := by obtain ⟨h1, h2⟩ := hx; have := (p[k]).toNat_lt; omega
  obtain ⟨ad, rfl⟩ : ∃ ad, A = some ad := by obtain ⟨ad, e, _⟩ := h.r.at_ hk'; exact ⟨ad, e⟩
  have hX := Lib.hid (show byteAt p k = x by obtain ⟨h1, h2⟩ := hx; rw [byteAt_lt p k h1, h2])
  obtain ⟨k1, hk1⟩ : ∃ k1, k1 = k + 1 := ⟨_, rfl⟩
  have hw1 : IntKind.i64.wrap ((k : Int) + 1) = (k1 : Int) := by rw [wrap_id _ (by omega) (by omega)]; omega
  have HK := Lib.hid hk1
  have hb0 := fun o => (h.alloc o).r.cell_ hx
  have hc1 := fun o => (h.alloc o).x.cells
  have hf1 := fun o => (h.alloc o).x.frozens
  have FF := Lib.hid (Fr.new h Tok.zero.cells)
  clear hk1 h hx
  subst hc
  have HG := Lib.hid hQ
  rw [← HK.out] at HG
  clear hQ
  have HR := Lib.hid (show byteAt p (k1 + 1) ≠ 58 from by rw [HK.out]; exact hR)
  clear hR
  go_enter Try.func34, Try.ntmps34
  refine shut_post fun E0 HQ => ?_
  go_wp2
  go_quiet (fail)
  have F1 := fun n => Ft.one H.out k1 (by have := HK.out; omega) { Tok.zero with kind := 4 } n
  go_upto_region 28 with fail
  go_cut [88] from 82 to 120 (fun s88 wx => ∃ k', s88 = .bool true ∧ Ft w wx g B (some ad) c p k' Tok.zero.cells (w.heap.size + 1) { Tok.zero with kind := 4 })
  case first =>
    go_wp2_with (first | (go_at_call 45; refine (comes_any _ g B (some ad) c p k2 58 (F2.out).f.l (by decide)).mono ?_; rintro e w3 ⟨b3, k3, rfl, hl3, ho3, hy3⟩; have hb3 := Lib.hid (show b3 = false ∧ k3 = k2 from (by cases b3 with | true => exact absurd (hy3.1 rfl).1 (HK2.out ▸ HR.out) | false => exact ⟨rfl, (hy3.2 rfl).2⟩)); obtain ⟨rfl, rfl⟩ := hb3.out; clear hb3; have F3 := Lib.hid ((F2.out).only ho3 hl3); clear hl3 ho3 hy3; have hz3_1 := F3.out.f.z.cells; simp only [Tok.cells, Tok.zero, Cl.zero] at hz3_1; have hz3_2 := F3.out.f.z.frozens; have hy3_1 := F3.out.b.cells; simp only [Tok.cells, Tok.zero, Cl.zero] at hy3_1; have hy3_2 := F3.out.b.frozens; have hlt := F3.out.lt) | (go_at_call 45; refine (comes_any _ g B (some ad) c p k1 63 (F1 _).f.l (by decide)).mono ?_; rintro e w2 ⟨b2, k2, rfl, hl2, ho2, hy2⟩; have hb2 := Lib.hid (show b2 = true ∧ k2 = k1 + 1 from (by cases b2 with | true => exact ⟨rfl, (hy2.1 rfl).2.1⟩ | false => exact absurd HG.out (hy2.2 rfl).1)); obtain ⟨rfl, hk2⟩ := hb2.out; clear hb2; have HK2 := Lib.hid hk2; clear hk2; have F2 := Lib.hid ((F1 _).only ho2 hl2); clear hl2 ho2 hy2; have hz2_1 := F2.out.f.z.cells; simp only [Tok.cells, Tok.zero, Cl.zero] at hz2_1; have hz2_2 := F2.out.f.z.frozens; have hy2_1 := F2.out.b.cells; simp only [Tok.cells, Tok.zero, Cl.zero] at hy2_1; have hy2_2 := F2.out.b.frozens; have hlt := F2.out.lt))
    go_meet
    exact ⟨_, rfl, F3.out⟩
  case rest =>
    obtain ⟨k', rfl, hF⟩ := hcut
    have F4 := Lib.hid hF
    clear hF
    have hz4_1 := F4.out.f.z.cells; simp only [Tok.cells, Tok.zero, Cl.zero] at hz4_1; have hz4_2 := F4.out.f.z.frozens; have hy4_1 := F4.out.b.cells; simp only [Tok.cells, Tok.zero, Cl.zero] at hy4_1; have hy4_2 := F4.out.b.frozens; have hlt := F4.out.lt
    go_wp2
    have FE := (F4.out).f.fin (t := { Tok.zero with kind := 4 })
    simp only [setN, Tok.list, Tok.cells, Tok.zero, Cl.zero, Nat.reduceAdd] at FE
    refine HQ.out _ _ ?_
    refine tok_end3 (t := { Tok.zero with kind := 4 }) rfl FE.z rfl rfl rfl ⟨?_, FE.o⟩
    rw [show oneM p k = .bad k 44 from by rw [oneM_at p k 40 hX.out]; have h := HG.out; have h2 := HR.out; rw [HK.out] at h h2; simp [h, h2]]
    exact ⟨_, _, rfl, FE.l, by decide⟩

set_option maxRecDepth 100000 in
set_option maxHeartbeats 4000000 in
theorem one_byte (w : World) (g B : Nat) (A : Option Addr) (c : Nat) (p : List UInt8) (k : Nat) (h : Lx w g B A c p k) (x : Int) (hx : ∃ h : k < p.length, (p[k].toNat : Int) = x) (h92 : x ≠ 92) (h91 : x ≠ 91) (h46 : x ≠ 46) (h40 : x ≠ 40) (h41 : x ≠ 41) (h124 : x ≠ 124) (h94 : x ≠ 94) (h36 : x ≠ 36) (h43 : x ≠ 43) (h42 : x ≠ 42) (h63 : x ≠ 63) (h123 : x ≠ 123) :
    Calls Try.prog 34 #[.pointer (some ⟨g, 0, none⟩)] w fun e w' => OneRes w' g B A c p (oneM p k) e ∧ Only g w w' := by
  have H := Lib.hid h
  have hs := h.small
  have hk := h.at_
  have hne := h.x.lt
  have hk' : k < p.length := hx.1
  obtain ⟨hx0, hx1⟩ : 0 ≤ x ∧ x ≤ 255 := by obtain ⟨h1, h2⟩ := hx; have := (p[k]).toNat_lt; omega
  obtain ⟨ad, rfl⟩ : ∃ ad, A = some ad := by obtain ⟨ad, e, _⟩ := h.r.at_ hk'; exact ⟨ad, e⟩
  have hX := Lib.hid (show byteAt p k = x by obtain ⟨h1, h2⟩ := hx; rw [byteAt_lt p k h1, h2])
  obtain ⟨k1, hk1⟩ : ∃ k1, k1 = k + 1 := ⟨_, rfl⟩
  have hw1 : IntKind.i64.wrap ((k : Int) + 1) = (k1 : Int) := by rw [wrap_id _ (by omega) (by omega)]; omega
  have HK := Lib.hid hk1
  have hb0 := fun o => (h.alloc o).r.cell_ hx
  have hc1 := fun o => (h.alloc o).x.cells
  have hf1 := fun o => (h.alloc o).x.frozens
  have FF := Lib.hid (Fr.new h Tok.zero.cells)
  clear hk1 h hx
  have q92 : (x == 92) = false := beq_eq_false_iff_ne.2 h92
  have q91 : (x == 91) = false := beq_eq_false_iff_ne.2 h91
  have q46 : (x == 46) = false := beq_eq_false_iff_ne.2 h46
  have q40 : (x == 40) = false := beq_eq_false_iff_ne.2 h40
  have q41 : (x == 41) = false := beq_eq_false_iff_ne.2 h41
  have q124 : (x == 124) = false := beq_eq_false_iff_ne.2 h124
  have q94 : (x == 94) = false := beq_eq_false_iff_ne.2 h94
  have q36 : (x == 36) = false := beq_eq_false_iff_ne.2 h36
  have q43 : (x == 43) = false := beq_eq_false_iff_ne.2 h43
  have q42 : (x == 42) = false := beq_eq_false_iff_ne.2 h42
  have q63 : (x == 63) = false := beq_eq_false_iff_ne.2 h63
  have q123 : (x == 123) = false := beq_eq_false_iff_ne.2 h123
  have HO := Lib.hid (show oneM p k = .ok { Tok.ofByte x with at_ := k } (k + 1) from by rw [oneM_at p k x hX.out]; simp only [h92, h91, h46, h40, h41, h124, h94, h36, h43, h42, h63, h123, if_false])
  clear h92 h91 h46 h40 h41 h124 h94 h36 h43 h42 h63 h123
  go_enter Try.func34, Try.ntmps34
  refine shut_post fun E0 HQ => ?_
  go_wp2
  go_quiet (fail)
  go_wp2
  have FE := fun n o => (((FF.out.drewN n).step k1 (by have := HK.out; omega)).fin (t := { Tok.ofByte x with at_ := k })).alloc o
  simp only [setN, Tok.list, Tok.cells, Tok.ofByte, Tok.zero, Cl.zero, Nat.reduceAdd] at FE
  refine HQ.out _ _ ?_
  refine tok_end3 (t := { Tok.ofByte x with at_ := k }) rfl (FE _ _).z rfl rfl rfl ⟨?_, (FE _ _).o⟩
  rw [HO.out]
  exact ⟨rfl, HK.out ▸ (FE _ _).l⟩

end Go.Proofs.Ytkfjnllbjlndlaa
