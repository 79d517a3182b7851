/- The reference's escape. -/
import Derived.Test.YtkfjnllbjlndlaaRcA
import Derived.Test.YtkfjnllbjlndlaaShut
import Derived.Deep.RegionWith
import Derived.Deep.CutRange
import Derived.Deep.RegionHeld3
namespace Go.Proofs.Ytkfjnllbjlndlaa
open Go.RowKit

def RTok (w w' : World) (o : Option (Tok × Nat)) (e : Ending) : Prop := e = .returned (.tuple #[(rtok o).v, .int .i64 (rend o)]) ∧ Below w.heap.size w w'
theorem RTok.mk_ {w w' : World} {o : Option (Tok × Nat)} {t : Tok} {a : Int} (ht : rtok o = t) (ha : rend o = a) (hb : Below w.heap.size w w') : RTok w w' o (.returned (.tuple #[t.v, .int .i64 a])) := by subst ht ha; exact ⟨rfl, hb⟩
set_option maxRecDepth 100000 in
set_option maxHeartbeats 400000 in
theorem resc_100 (w : World) (A : Option Addr) (c : Nat) (p : List UInt8) (k : Nat) (hr : RdB w w.heap.size A p) (hs : p.length ≤ 1024) (x : Int) (hx : ∃ h : k + 1 < p.length, (p[k + 1].toNat : Int) = x) (hc : x = 100) :
    Calls Try.prog 66 #[.slice A p.length c, .int .i64 k] w fun e w' => RTok w w' (escM p (k + 1)) e := by
  obtain ⟨k1, hk1⟩ : ∃ k1, k1 = k + 1 := ⟨_, rfl⟩
  obtain ⟨k2, hk2⟩ : ∃ k2, k2 = k1 + 1 := ⟨_, rfl⟩
  rw [← hk1]
  simp only [← hk1] at hx
  have hk' : k1 < p.length := hx.1
  obtain ⟨hx0, hx1⟩ : 0 ≤ x ∧ x ≤ 255 := by obtain ⟨h1, h2⟩ := hx; have := (p[k1]).toNat_lt; omega
  obtain ⟨ad, rfl⟩ : ∃ ad, A = some ad := by obtain ⟨ad, e, _⟩ := hr.at_ hk'; exact ⟨ad, e⟩
  have hM := Lib.hid (escM_at p k1 x (by obtain ⟨h1, h2⟩ := hx; rw [byteAt_lt p k1 h1, h2]))
  have hw1 : IntKind.i64.wrap ((k : Int) + 1) = (k1 : Int) := by rw [wrap_id _ (by omega) (by omega)]; omega
  have hw2 : IntKind.i64.wrap ((k : Int) + 2) = (k2 : Int) := by rw [wrap_id _ (by omega) (by omega)]; omega
  have hv1 : (k : Int) + 1 = (k1 : Int) := by omega
  have hv2 : (k : Int) + 2 = (k2 : Int) := by omega
  have hb0 := fun o => RdB.cell_ (Reads.alloc hr (Nat.le_refl _) o) hx
  have K0 := Lib.hid (KT.new w Tok.zero)
  have HK := Lib.hid hk2
  have HR := Lib.hid hr
  have hkn : k < 1024 := by omega
  clear hk1 hk2 hx hr
  subst hc
  go_enter Try.func66, Try.ntmps66
  refine shut_post fun E0 HQ => ?_
  go_wp2_with (first | (go_at_call 72; refine (aclass_any (Cl.digit) _).mono ?_; rintro e w2 ⟨rfl, hb⟩; have K2 := Lib.hid (K1.out.step hb); clear hb; have hz2_1 := K2.out.1.cells; simp only [Tok.cells, Tok.zero, Cl.zero] at hz2_1; have hz2_2 := K2.out.1.frozens; simp only [Tok.v, Tok.ofCls, Tok.zero]) | (go_at_call 73; refine (refDigit_cls _).mono ?_; rintro e w1 ⟨rfl, hb⟩; have K1 := Lib.hid (K0.out.step hb); clear hb; have hz1_1 := K1.out.1.cells; simp only [Tok.cells, Tok.zero, Cl.zero] at hz1_1; have hz1_2 := K1.out.1.frozens; unfold Cl.v))
  have FE := KT.fin K2.out (Tok.ofCls Cl.digit)
  simp only [setN, Tok.list, Tok.ofCls, Tok.zero, Cl.zero, Nat.reduceAdd] at FE
  refine HQ.out _ _ ?_
  refine tok_two (t := Tok.ofCls Cl.digit) rfl FE.1 rfl rfl (RTok.mk_ ?_ ?_ FE.2)
  all_goals (rw [hM.out]; simp [rtok, rend, HK.out])

set_option maxRecDepth 100000 in
set_option maxHeartbeats 400000 in
theorem resc_119 (w : World) (A : Option Addr) (c : Nat) (p : List UInt8) (k : Nat) (hr : RdB w w.heap.size A p) (hs : p.length ≤ 1024) (x : Int) (hx : ∃ h : k + 1 < p.length, (p[k + 1].toNat : Int) = x) (hc : x = 119) :
    Calls Try.prog 66 #[.slice A p.length c, .int .i64 k] w fun e w' => RTok w w' (escM p (k + 1)) e := by
  obtain ⟨k1, hk1⟩ : ∃ k1, k1 = k + 1 := ⟨_, rfl⟩
  obtain ⟨k2, hk2⟩ : ∃ k2, k2 = k1 + 1 := ⟨_, rfl⟩
  rw [← hk1]
  simp only [← hk1] at hx
  have hk' : k1 < p.length := hx.1
  obtain ⟨hx0, hx1⟩ : 0 ≤ x ∧ x ≤ 255 := by obtain ⟨h1, h2⟩ := hx; have := (p[k1]).toNat_lt; omega
  obtain ⟨ad, rfl⟩ : ∃ ad, A = some ad := by obtain ⟨ad, e, _⟩ := hr.at_ hk'; exact ⟨ad, e⟩
  have hM := Lib.hid (escM_at p k1 x (by obtain ⟨h1, h2⟩ := hx; rw [byteAt_lt p k1 h1, h2]))
  have hw1 : IntKind.i64.wrap ((k : Int) + 1) = (k1 : Int) := by rw [wrap_id _ (by omega) (by omega)]; omega
  have hw2 : IntKind.i64.wrap ((k : Int) + 2) = (k2 : Int) := by rw [wrap_id _ (by omega) (by omega)]; omega
  have hv1 : (k : Int) + 1 = (k1 : Int) := by omega
  have hv2 : (k : Int) + 2 = (k2 : Int) := by omega
  have hb0 := fun o => RdB.cell_ (Reads.alloc hr (Nat.le_refl _) o) hx
  have K0 := Lib.hid (KT.new w Tok.zero)
  have HK := Lib.hid hk2
  have HR := Lib.hid hr
  have hkn : k < 1024 := by omega
  clear hk1 hk2 hx hr
  subst hc
  go_enter Try.func66, Try.ntmps66
  refine shut_post fun E0 HQ => ?_
  go_wp2_with (first | (go_at_call 72; refine (aclass_any (Cl.word) _).mono ?_; rintro e w2 ⟨rfl, hb⟩; have K2 := Lib.hid (K1.out.step hb); clear hb; have hz2_1 := K2.out.1.cells; simp only [Tok.cells, Tok.zero, Cl.zero] at hz2_1; have hz2_2 := K2.out.1.frozens; simp only [Tok.v, Tok.ofCls, Tok.zero]) | (go_at_call 74; refine (refWord_cls _).mono ?_; rintro e w1 ⟨rfl, hb⟩; have K1 := Lib.hid (K0.out.step hb); clear hb; have hz1_1 := K1.out.1.cells; simp only [Tok.cells, Tok.zero, Cl.zero] at hz1_1; have hz1_2 := K1.out.1.frozens; unfold Cl.v))
  have FE := KT.fin K2.out (Tok.ofCls Cl.word)
  simp only [setN, Tok.list, Tok.ofCls, Tok.zero, Cl.zero, Nat.reduceAdd] at FE
  refine HQ.out _ _ ?_
  refine tok_two (t := Tok.ofCls Cl.word) rfl FE.1 rfl rfl (RTok.mk_ ?_ ?_ FE.2)
  all_goals (rw [hM.out]; simp [rtok, rend, HK.out])

set_option maxRecDepth 100000 in
set_option maxHeartbeats 400000 in
theorem resc_115 (w : World) (A : Option Addr) (c : Nat) (p : List UInt8) (k : Nat) (hr : RdB w w.heap.size A p) (hs : p.length ≤ 1024) (x : Int) (hx : ∃ h : k + 1 < p.length, (p[k + 1].toNat : Int) = x) (hc : x = 115) :
    Calls Try.prog 66 #[.slice A p.length c, .int .i64 k] w fun e w' => RTok w w' (escM p (k + 1)) e := by
  obtain ⟨k1, hk1⟩ : ∃ k1, k1 = k + 1 := ⟨_, rfl⟩
  obtain ⟨k2, hk2⟩ : ∃ k2, k2 = k1 + 1 := ⟨_, rfl⟩
  rw [← hk1]
  simp only [← hk1] at hx
  have hk' : k1 < p.length := hx.1
  obtain ⟨hx0, hx1⟩ : 0 ≤ x ∧ x ≤ 255 := by obtain ⟨h1, h2⟩ := hx; have := (p[k1]).toNat_lt; omega
  obtain ⟨ad, rfl⟩ : ∃ ad, A = some ad := by obtain ⟨ad, e, _⟩ := hr.at_ hk'; exact ⟨ad, e⟩
  have hM := Lib.hid (escM_at p k1 x (by obtain ⟨h1, h2⟩ := hx; rw [byteAt_lt p k1 h1, h2]))
  have hw1 : IntKind.i64.wrap ((k : Int) + 1) = (k1 : Int) := by rw [wrap_id _ (by omega) (by omega)]; omega
  have hw2 : IntKind.i64.wrap ((k : Int) + 2) = (k2 : Int) := by rw [wrap_id _ (by omega) (by omega)]; omega
  have hv1 : (k : Int) + 1 = (k1 : Int) := by omega
  have hv2 : (k : Int) + 2 = (k2 : Int) := by omega
  have hb0 := fun o => RdB.cell_ (Reads.alloc hr (Nat.le_refl _) o) hx
  have K0 := Lib.hid (KT.new w Tok.zero)
  have HK := Lib.hid hk2
  have HR := Lib.hid hr
  have hkn : k < 1024 := by omega
  clear hk1 hk2 hx hr
  subst hc
  go_enter Try.func66, Try.ntmps66
  refine shut_post fun E0 HQ => ?_
  go_wp2_with (first | (go_at_call 72; refine (aclass_any (Cl.space) _).mono ?_; rintro e w2 ⟨rfl, hb⟩; have K2 := Lib.hid (K1.out.step hb); clear hb; have hz2_1 := K2.out.1.cells; simp only [Tok.cells, Tok.zero, Cl.zero] at hz2_1; have hz2_2 := K2.out.1.frozens; simp only [Tok.v, Tok.ofCls, Tok.zero]) | (go_at_call 75; refine (refSpace_cls _).mono ?_; rintro e w1 ⟨rfl, hb⟩; have K1 := Lib.hid (K0.out.step hb); clear hb; have hz1_1 := K1.out.1.cells; simp only [Tok.cells, Tok.zero, Cl.zero] at hz1_1; have hz1_2 := K1.out.1.frozens; unfold Cl.v))
  have FE := KT.fin K2.out (Tok.ofCls Cl.space)
  simp only [setN, Tok.list, Tok.ofCls, Tok.zero, Cl.zero, Nat.reduceAdd] at FE
  refine HQ.out _ _ ?_
  refine tok_two (t := Tok.ofCls Cl.space) rfl FE.1 rfl rfl (RTok.mk_ ?_ ?_ FE.2)
  all_goals (rw [hM.out]; simp [rtok, rend, HK.out])

set_option maxRecDepth 100000 in
set_option maxHeartbeats 400000 in
theorem resc_68 (w : World) (A : Option Addr) (c : Nat) (p : List UInt8) (k : Nat) (hr : RdB w w.heap.size A p) (hs : p.length ≤ 1024) (x : Int) (hx : ∃ h : k + 1 < p.length, (p[k + 1].toNat : Int) = x) (hc : x = 68) :
    Calls Try.prog 66 #[.slice A p.length c, .int .i64 k] w fun e w' => RTok w w' (escM p (k + 1)) e := by
  obtain ⟨k1, hk1⟩ : ∃ k1, k1 = k + 1 := ⟨_, rfl⟩
  obtain ⟨k2, hk2⟩ : ∃ k2, k2 = k1 + 1 := ⟨_, rfl⟩
  rw [← hk1]
  simp only [← hk1] at hx
  have hk' : k1 < p.length := hx.1
  obtain ⟨hx0, hx1⟩ : 0 ≤ x ∧ x ≤ 255 := by obtain ⟨h1, h2⟩ := hx; have := (p[k1]).toNat_lt; omega
  obtain ⟨ad, rfl⟩ : ∃ ad, A = some ad := by obtain ⟨ad, e, _⟩ := hr.at_ hk'; exact ⟨ad, e⟩
  have hM := Lib.hid (escM_at p k1 x (by obtain ⟨h1, h2⟩ := hx; rw [byteAt_lt p k1 h1, h2]))
  have hw1 : IntKind.i64.wrap ((k : Int) + 1) = (k1 : Int) := by rw [wrap_id _ (by omega) (by omega)]; omega
  have hw2 : IntKind.i64.wrap ((k : Int) + 2) = (k2 : Int) := by rw [wrap_id _ (by omega) (by omega)]; omega
  have hv1 : (k : Int) + 1 = (k1 : Int) := by omega
  have hv2 : (k : Int) + 2 = (k2 : Int) := by omega
  have hb0 := fun o => RdB.cell_ (Reads.alloc hr (Nat.le_refl _) o) hx
  have K0 := Lib.hid (KT.new w Tok.zero)
  have HK := Lib.hid hk2
  have HR := Lib.hid hr
  have hkn : k < 1024 := by omega
  clear hk1 hk2 hx hr
  subst hc
  go_enter Try.func66, Try.ntmps66
  refine shut_post fun E0 HQ => ?_
  go_wp2_with (first | (go_at_call 72; refine (aclass_any (Cl.digit.not) _).mono ?_; rintro e w3 ⟨rfl, hb⟩; have K3 := Lib.hid (K2.out.step hb); clear hb; have hz3_1 := K3.out.1.cells; simp only [Tok.cells, Tok.zero, Cl.zero] at hz3_1; have hz3_2 := K3.out.1.frozens; simp only [Tok.v, Tok.ofCls, Tok.zero]) | (go_at_call 76; refine (refNot_cls Cl.digit _).mono ?_; rintro e w2 ⟨rfl, hb⟩; have K2 := Lib.hid (K1.out.step hb); clear hb; have hz2_1 := K2.out.1.cells; simp only [Tok.cells, Tok.zero, Cl.zero] at hz2_1; have hz2_2 := K2.out.1.frozens; unfold Cl.v) | (go_at_call 73; refine (refDigit_cls _).mono ?_; rintro e w1 ⟨rfl, hb⟩; have K1 := Lib.hid (K0.out.step hb); clear hb; have hz1_1 := K1.out.1.cells; simp only [Tok.cells, Tok.zero, Cl.zero] at hz1_1; have hz1_2 := K1.out.1.frozens; unfold Cl.v))
  have FE := KT.fin K3.out (Tok.ofCls (Cl.digit.not))
  simp only [setN, Tok.list, Tok.ofCls, Tok.zero, Cl.zero, Nat.reduceAdd] at FE
  refine HQ.out _ _ ?_
  refine tok_two (t := Tok.ofCls (Cl.digit.not)) rfl FE.1 rfl rfl (RTok.mk_ ?_ ?_ FE.2)
  all_goals (rw [hM.out]; simp [rtok, rend, HK.out])

set_option maxRecDepth 100000 in
set_option maxHeartbeats 400000 in
theorem resc_87 (w : World) (A : Option Addr) (c : Nat) (p : List UInt8) (k : Nat) (hr : RdB w w.heap.size A p) (hs : p.length ≤ 1024) (x : Int) (hx : ∃ h : k + 1 < p.length, (p[k + 1].toNat : Int) = x) (hc : x = 87) :
    Calls Try.prog 66 #[.slice A p.length c, .int .i64 k] w fun e w' => RTok w w' (escM p (k + 1)) e := by
  obtain ⟨k1, hk1⟩ : ∃ k1, k1 = k + 1 := ⟨_, rfl⟩
  obtain ⟨k2, hk2⟩ : ∃ k2, k2 = k1 + 1 := ⟨_, rfl⟩
  rw [← hk1]
  simp only [← hk1] at hx
  have hk' : k1 < p.length := hx.1
  obtain ⟨hx0, hx1⟩ : 0 ≤ x ∧ x ≤ 255 := by obtain ⟨h1, h2⟩ := hx; have := (p[k1]).toNat_lt; omega
  obtain ⟨ad, rfl⟩ : ∃ ad, A = some ad := by obtain ⟨ad, e, _⟩ := hr.at_ hk'; exact ⟨ad, e⟩
  have hM := Lib.hid (escM_at p k1 x (by obtain ⟨h1, h2⟩ := hx; rw [byteAt_lt p k1 h1, h2]))
  have hw1 : IntKind.i64.wrap ((k : Int) + 1) = (k1 : Int) := by rw [wrap_id _ (by omega) (by omega)]; omega
  have hw2 : IntKind.i64.wrap ((k : Int) + 2) = (k2 : Int) := by rw [wrap_id _ (by omega) (by omega)]; omega
  have hv1 : (k : Int) + 1 = (k1 : Int) := by omega
  have hv2 : (k : Int) + 2 = (k2 : Int) := by omega
  have hb0 := fun o => RdB.cell_ (Reads.alloc hr (Nat.le_refl _) o) hx
  have K0 := Lib.hid (KT.new w Tok.zero)
  have HK := Lib.hid hk2
  have HR := Lib.hid hr
  have hkn : k < 1024 := by omega
  clear hk1 hk2 hx hr
  subst hc
  go_enter Try.func66, Try.ntmps66
  refine shut_post fun E0 HQ => ?_
  go_wp2_with (first | (go_at_call 72; refine (aclass_any (Cl.word.not) _).mono ?_; rintro e w3 ⟨rfl, hb⟩; have K3 := Lib.hid (K2.out.step hb); clear hb; have hz3_1 := K3.out.1.cells; simp only [Tok.cells, Tok.zero, Cl.zero] at hz3_1; have hz3_2 := K3.out.1.frozens; simp only [Tok.v, Tok.ofCls, Tok.zero]) | (go_at_call 76; refine (refNot_cls Cl.word _).mono ?_; rintro e w2 ⟨rfl, hb⟩; have K2 := Lib.hid (K1.out.step hb); clear hb; have hz2_1 := K2.out.1.cells; simp only [Tok.cells, Tok.zero, Cl.zero] at hz2_1; have hz2_2 := K2.out.1.frozens; unfold Cl.v) | (go_at_call 74; refine (refWord_cls _).mono ?_; rintro e w1 ⟨rfl, hb⟩; have K1 := Lib.hid (K0.out.step hb); clear hb; have hz1_1 := K1.out.1.cells; simp only [Tok.cells, Tok.zero, Cl.zero] at hz1_1; have hz1_2 := K1.out.1.frozens; unfold Cl.v))
  have FE := KT.fin K3.out (Tok.ofCls (Cl.word.not))
  simp only [setN, Tok.list, Tok.ofCls, Tok.zero, Cl.zero, Nat.reduceAdd] at FE
  refine HQ.out _ _ ?_
  refine tok_two (t := Tok.ofCls (Cl.word.not)) rfl FE.1 rfl rfl (RTok.mk_ ?_ ?_ FE.2)
  all_goals (rw [hM.out]; simp [rtok, rend, HK.out])

set_option maxRecDepth 100000 in
set_option maxHeartbeats 400000 in
theorem resc_83 (w : World) (A : Option Addr) (c : Nat) (p : List UInt8) (k : Nat) (hr : RdB w w.heap.size A p) (hs : p.length ≤ 1024) (x : Int) (hx : ∃ h : k + 1 < p.length, (p[k + 1].toNat : Int) = x) (hc : x = 83) :
    Calls Try.prog 66 #[.slice A p.length c, .int .i64 k] w fun e w' => RTok w w' (escM p (k + 1)) e := by
  obtain ⟨k1, hk1⟩ : ∃ k1, k1 = k + 1 := ⟨_, rfl⟩
  obtain ⟨k2, hk2⟩ : ∃ k2, k2 = k1 + 1 := ⟨_, rfl⟩
  rw [← hk1]
  simp only [← hk1] at hx
  have hk' : k1 < p.length := hx.1
  obtain ⟨hx0, hx1⟩ : 0 ≤ x ∧ x ≤ 255 := by obtain ⟨h1, h2⟩ := hx; have := (p[k1]).toNat_lt; omega
  obtain ⟨ad, rfl⟩ : ∃ ad, A = some ad := by obtain ⟨ad, e, _⟩ := hr.at_ hk'; exact ⟨ad, e⟩
  have hM := Lib.hid (escM_at p k1 x (by obtain ⟨h1, h2⟩ := hx; rw [byteAt_lt p k1 h1, h2]))
  have hw1 : IntKind.i64.wrap ((k : Int) + 1) = (k1 : Int) := by rw [wrap_id _ (by omega) (by omega)]; omega
  have hw2 : IntKind.i64.wrap ((k : Int) + 2) = (k2 : Int) := by rw [wrap_id _ (by omega) (by omega)]; omega
  have hv1 : (k : Int) + 1 = (k1 : Int) := by omega
  have hv2 : (k : Int) + 2 = (k2 : Int) := by omega
  have hb0 := fun o => RdB.cell_ (Reads.alloc hr (Nat.le_refl _) o) hx
  have K0 := Lib.hid (KT.new w Tok.zero)
  have HK := Lib.hid hk2
  have HR := Lib.hid hr
  have hkn : k < 1024 := by omega
  clear hk1 hk2 hx hr
  subst hc
  go_enter Try.func66, Try.ntmps66
  refine shut_post fun E0 HQ => ?_
  go_wp2_with (first | (go_at_call 72; refine (aclass_any (Cl.space.not) _).mono ?_; rintro e w3 ⟨rfl, hb⟩; have K3 := Lib.hid (K2.out.step hb); clear hb; have hz3_1 := K3.out.1.cells; simp only [Tok.cells, Tok.zero, Cl.zero] at hz3_1; have hz3_2 := K3.out.1.frozens; simp only [Tok.v, Tok.ofCls, Tok.zero]) | (go_at_call 76; refine (refNot_cls Cl.space _).mono ?_; rintro e w2 ⟨rfl, hb⟩; have K2 := Lib.hid (K1.out.step hb); clear hb; have hz2_1 := K2.out.1.cells; simp only [Tok.cells, Tok.zero, Cl.zero] at hz2_1; have hz2_2 := K2.out.1.frozens; unfold Cl.v) | (go_at_call 75; refine (refSpace_cls _).mono ?_; rintro e w1 ⟨rfl, hb⟩; have K1 := Lib.hid (K0.out.step hb); clear hb; have hz1_1 := K1.out.1.cells; simp only [Tok.cells, Tok.zero, Cl.zero] at hz1_1; have hz1_2 := K1.out.1.frozens; unfold Cl.v))
  have FE := KT.fin K3.out (Tok.ofCls (Cl.space.not))
  simp only [setN, Tok.list, Tok.ofCls, Tok.zero, Cl.zero, Nat.reduceAdd] at FE
  refine HQ.out _ _ ?_
  refine tok_two (t := Tok.ofCls (Cl.space.not)) rfl FE.1 rfl rfl (RTok.mk_ ?_ ?_ FE.2)
  all_goals (rw [hM.out]; simp [rtok, rend, HK.out])

set_option maxRecDepth 100000 in
set_option maxHeartbeats 400000 in
theorem resc_110 (w : World) (A : Option Addr) (c : Nat) (p : List UInt8) (k : Nat) (hr : RdB w w.heap.size A p) (hs : p.length ≤ 1024) (x : Int) (hx : ∃ h : k + 1 < p.length, (p[k + 1].toNat : Int) = x) (hc : x = 110) :
    Calls Try.prog 66 #[.slice A p.length c, .int .i64 k] w fun e w' => RTok w w' (escM p (k + 1)) e := by
  obtain ⟨k1, hk1⟩ : ∃ k1, k1 = k + 1 := ⟨_, rfl⟩
  obtain ⟨k2, hk2⟩ : ∃ k2, k2 = k1 + 1 := ⟨_, rfl⟩
  rw [← hk1]
  simp only [← hk1] at hx
  have hk' : k1 < p.length := hx.1
  obtain ⟨hx0, hx1⟩ : 0 ≤ x ∧ x ≤ 255 := by obtain ⟨h1, h2⟩ := hx; have := (p[k1]).toNat_lt; omega
  obtain ⟨ad, rfl⟩ : ∃ ad, A = some ad := by obtain ⟨ad, e, _⟩ := hr.at_ hk'; exact ⟨ad, e⟩
  have hM := Lib.hid (escM_at p k1 x (by obtain ⟨h1, h2⟩ := hx; rw [byteAt_lt p k1 h1, h2]))
  have hw1 : IntKind.i64.wrap ((k : Int) + 1) = (k1 : Int) := by rw [wrap_id _ (by omega) (by omega)]; omega
  have hw2 : IntKind.i64.wrap ((k : Int) + 2) = (k2 : Int) := by rw [wrap_id _ (by omega) (by omega)]; omega
  have hv1 : (k : Int) + 1 = (k1 : Int) := by omega
  have hv2 : (k : Int) + 2 = (k2 : Int) := by omega
  have hb0 := fun o => RdB.cell_ (Reads.alloc hr (Nat.le_refl _) o) hx
  have K0 := Lib.hid (KT.new w Tok.zero)
  have HK := Lib.hid hk2
  have HR := Lib.hid hr
  have hkn : k < 1024 := by omega
  clear hk1 hk2 hx hr
  subst hc
  go_enter Try.func66, Try.ntmps66
  refine shut_post fun E0 HQ => ?_
  go_wp2_with (first | (go_at_call 69; refine (abyte_any (10) _).mono ?_; rintro e w1 ⟨rfl, hb⟩; have K1 := Lib.hid (K0.out.step hb); clear hb; have hz1_1 := K1.out.1.cells; simp only [Tok.cells, Tok.zero, Cl.zero] at hz1_1; have hz1_2 := K1.out.1.frozens; simp only [Tok.v, Tok.ofByte, Tok.zero]))
  have FE := KT.fin K1.out (Tok.ofByte 10)
  simp only [setN, Tok.list, Tok.ofByte, Tok.zero, Cl.zero, Nat.reduceAdd] at FE
  refine HQ.out _ _ ?_
  refine tok_two (t := Tok.ofByte 10) rfl FE.1 rfl rfl (RTok.mk_ ?_ ?_ FE.2)
  all_goals (rw [hM.out]; simp [rtok, rend, HK.out])

set_option maxRecDepth 100000 in
set_option maxHeartbeats 400000 in
theorem resc_114 (w : World) (A : Option Addr) (c : Nat) (p : List UInt8) (k : Nat) (hr : RdB w w.heap.size A p) (hs : p.length ≤ 1024) (x : Int) (hx : ∃ h : k + 1 < p.length, (p[k + 1].toNat : Int) = x) (hc : x = 114) :
    Calls Try.prog 66 #[.slice A p.length c, .int .i64 k] w fun e w' => RTok w w' (escM p (k + 1)) e := by
  obtain ⟨k1, hk1⟩ : ∃ k1, k1 = k + 1 := ⟨_, rfl⟩
  obtain ⟨k2, hk2⟩ : ∃ k2, k2 = k1 + 1 := ⟨_, rfl⟩
  rw [← hk1]
  simp only [← hk1] at hx
  have hk' : k1 < p.length := hx.1
  obtain ⟨hx0, hx1⟩ : 0 ≤ x ∧ x ≤ 255 := by obtain ⟨h1, h2⟩ := hx; have := (p[k1]).toNat_lt; omega
  obtain ⟨ad, rfl⟩ : ∃ ad, A = some ad := by obtain ⟨ad, e, _⟩ := hr.at_ hk'; exact ⟨ad, e⟩
  have hM := Lib.hid (escM_at p k1 x (by obtain ⟨h1, h2⟩ := hx; rw [byteAt_lt p k1 h1, h2]))
  have hw1 : IntKind.i64.wrap ((k : Int) + 1) = (k1 : Int) := by rw [wrap_id _ (by omega) (by omega)]; omega
  have hw2 : IntKind.i64.wrap ((k : Int) + 2) = (k2 : Int) := by rw [wrap_id _ (by omega) (by omega)]; omega
  have hv1 : (k : Int) + 1 = (k1 : Int) := by omega
  have hv2 : (k : Int) + 2 = (k2 : Int) := by omega
  have hb0 := fun o => RdB.cell_ (Reads.alloc hr (Nat.le_refl _) o) hx
  have K0 := Lib.hid (KT.new w Tok.zero)
  have HK := Lib.hid hk2
  have HR := Lib.hid hr
  have hkn : k < 1024 := by omega
  clear hk1 hk2 hx hr
  subst hc
  go_enter Try.func66, Try.ntmps66
  refine shut_post fun E0 HQ => ?_
  go_wp2_with (first | (go_at_call 69; refine (abyte_any (13) _).mono ?_; rintro e w1 ⟨rfl, hb⟩; have K1 := Lib.hid (K0.out.step hb); clear hb; have hz1_1 := K1.out.1.cells; simp only [Tok.cells, Tok.zero, Cl.zero] at hz1_1; have hz1_2 := K1.out.1.frozens; simp only [Tok.v, Tok.ofByte, Tok.zero]))
  have FE := KT.fin K1.out (Tok.ofByte 13)
  simp only [setN, Tok.list, Tok.ofByte, Tok.zero, Cl.zero, Nat.reduceAdd] at FE
  refine HQ.out _ _ ?_
  refine tok_two (t := Tok.ofByte 13) rfl FE.1 rfl rfl (RTok.mk_ ?_ ?_ FE.2)
  all_goals (rw [hM.out]; simp [rtok, rend, HK.out])

set_option maxRecDepth 100000 in
set_option maxHeartbeats 400000 in
theorem resc_116 (w : World) (A : Option Addr) (c : Nat) (p : List UInt8) (k : Nat) (hr : RdB w w.heap.size A p) (hs : p.length ≤ 1024) (x : Int) (hx : ∃ h : k + 1 < p.length, (p[k + 1].toNat : Int) = x) (hc : x = 116) :
    Calls Try.prog 66 #[.slice A p.length c, .int .i64 k] w fun e w' => RTok w w' (escM p (k + 1)) e := by
  obtain ⟨k1, hk1⟩ : ∃ k1, k1 = k + 1 := ⟨_, rfl⟩
  obtain ⟨k2, hk2⟩ : ∃ k2, k2 = k1 + 1 := ⟨_, rfl⟩
  rw [← hk1]
  simp only [← hk1] at hx
  have hk' : k1 < p.length := hx.1
  obtain ⟨hx0, hx1⟩ : 0 ≤ x ∧ x ≤ 255 := by obtain ⟨h1, h2⟩ := hx; have := (p[k1]).toNat_lt; omega
  obtain ⟨ad, rfl⟩ : ∃ ad, A = some ad := by obtain ⟨ad, e, _⟩ := hr.at_ hk'; exact ⟨ad, e⟩
  have hM := Lib.hid (escM_at p k1 x (by obtain ⟨h1, h2⟩ := hx; rw [byteAt_lt p k1 h1, h2]))
  have hw1 : IntKind.i64.wrap ((k : Int) + 1) = (k1 : Int) := by rw [wrap_id _ (by omega) (by omega)]; omega
  have hw2 : IntKind.i64.wrap ((k : Int) + 2) = (k2 : Int) := by rw [wrap_id _ (by omega) (by omega)]; omega
  have hv1 : (k : Int) + 1 = (k1 : Int) := by omega
  have hv2 : (k : Int) + 2 = (k2 : Int) := by omega
  have hb0 := fun o => RdB.cell_ (Reads.alloc hr (Nat.le_refl _) o) hx
  have K0 := Lib.hid (KT.new w Tok.zero)
  have HK := Lib.hid hk2
  have HR := Lib.hid hr
  have hkn : k < 1024 := by omega
  clear hk1 hk2 hx hr
  subst hc
  go_enter Try.func66, Try.ntmps66
  refine shut_post fun E0 HQ => ?_
  go_wp2_with (first | (go_at_call 69; refine (abyte_any (9) _).mono ?_; rintro e w1 ⟨rfl, hb⟩; have K1 := Lib.hid (K0.out.step hb); clear hb; have hz1_1 := K1.out.1.cells; simp only [Tok.cells, Tok.zero, Cl.zero] at hz1_1; have hz1_2 := K1.out.1.frozens; simp only [Tok.v, Tok.ofByte, Tok.zero]))
  have FE := KT.fin K1.out (Tok.ofByte 9)
  simp only [setN, Tok.list, Tok.ofByte, Tok.zero, Cl.zero, Nat.reduceAdd] at FE
  refine HQ.out _ _ ?_
  refine tok_two (t := Tok.ofByte 9) rfl FE.1 rfl rfl (RTok.mk_ ?_ ?_ FE.2)
  all_goals (rw [hM.out]; simp [rtok, rend, HK.out])

set_option maxRecDepth 100000 in
set_option maxHeartbeats 400000 in
theorem resc_let (w : World) (A : Option Addr) (c : Nat) (p : List UInt8) (k : Nat) (hr : RdB w w.heap.size A p) (hs : p.length ≤ 1024) (x : Int) (hx : ∃ h : k + 1 < p.length, (p[k + 1].toNat : Int) = x) (h1 : x ≠ 100 ∧ x ≠ 119 ∧ x ≠ 115 ∧ x ≠ 68 ∧ x ≠ 87 ∧ x ≠ 83) (h2 : x ≠ 110 ∧ x ≠ 114 ∧ x ≠ 116 ∧ x ≠ 120) (h3 : letM x = true) :
    Calls Try.prog 66 #[.slice A p.length c, .int .i64 k] w fun e w' => RTok w w' (escM p (k + 1)) e := by
  obtain ⟨k1, hk1⟩ : ∃ k1, k1 = k + 1 := ⟨_, rfl⟩
  obtain ⟨k2, hk2⟩ : ∃ k2, k2 = k1 + 1 := ⟨_, rfl⟩
  rw [← hk1]
  simp only [← hk1] at hx
  have hk' : k1 < p.length := hx.1
  obtain ⟨hx0, hx1⟩ : 0 ≤ x ∧ x ≤ 255 := by obtain ⟨h1, h2⟩ := hx; have := (p[k1]).toNat_lt; omega
  obtain ⟨ad, rfl⟩ : ∃ ad, A = some ad := by obtain ⟨ad, e, _⟩ := hr.at_ hk'; exact ⟨ad, e⟩
  have hM := Lib.hid (escM_at p k1 x (by obtain ⟨h1, h2⟩ := hx; rw [byteAt_lt p k1 h1, h2]))
  have hw1 : IntKind.i64.wrap ((k : Int) + 1) = (k1 : Int) := by rw [wrap_id _ (by omega) (by omega)]; omega
  have hw2 : IntKind.i64.wrap ((k : Int) + 2) = (k2 : Int) := by rw [wrap_id _ (by omega) (by omega)]; omega
  have hv1 : (k : Int) + 1 = (k1 : Int) := by omega
  have hv2 : (k : Int) + 2 = (k2 : Int) := by omega
  have hb0 := fun o => RdB.cell_ (Reads.alloc hr (Nat.le_refl _) o) hx
  have K0 := Lib.hid (KT.new w Tok.zero)
  have HK := Lib.hid hk2
  have HR := Lib.hid hr
  have hkn : k < 1024 := by omega
  clear hk1 hk2 hx hr
  have hE := Lib.hid (show escM p k1 = if letM x || digM x then none else some (Tok.ofByte x, k1 + 1) by rw [hM.out, if_neg (by omega), if_neg (by omega), if_neg (by omega), if_neg (by omega), if_neg (by omega), if_neg (by omega), if_neg (by omega), if_neg (by omega), if_neg (by omega), if_neg (by omega), if_neg (by omega)])
  clear hM
  have hM := hE
  clear hE
  obtain ⟨a1, a2, a3, a4, a5, a6⟩ := h1
  obtain ⟨a7, a8, a9, a10⟩ := h2
  have q0 : (x == 100) = false := beq_eq_false_iff_ne.2 a1
  have q1 : (x == 119) = false := beq_eq_false_iff_ne.2 a2
  have q2 : (x == 115) = false := beq_eq_false_iff_ne.2 a3
  have q3 : (x == 68) = false := beq_eq_false_iff_ne.2 a4
  have q4 : (x == 87) = false := beq_eq_false_iff_ne.2 a5
  have q5 : (x == 83) = false := beq_eq_false_iff_ne.2 a6
  have q6 : (x == 110) = false := beq_eq_false_iff_ne.2 a7
  have q7 : (x == 114) = false := beq_eq_false_iff_ne.2 a8
  have q8 : (x == 116) = false := beq_eq_false_iff_ne.2 a9
  have q9 : (x == 120) = false := beq_eq_false_iff_ne.2 a10
  clear a1 a2 a3 a4 a5 a6 a7 a8 a9 a10
  have H3 := Lib.hid h3
  clear h3
  go_enter Try.func66, Try.ntmps66
  refine shut_post fun E0 HQ => ?_
  go_wp2_with (first | (go_at_call 78; refine (rlet_any x _ (by omega) (by omega)).mono ?_; rintro e w3 ⟨rfl, rfl⟩; rw [H3.out]))
  have FE := KT.new w (Tok.zero)
  simp only [Tok.cells, Tok.zero, Cl.zero] at FE
  refine HQ.out _ _ ?_
  refine tok_two (t := Tok.zero) rfl FE.1 rfl rfl (RTok.mk_ ?_ ?_ FE.2)
  all_goals (rw [hM.out]; simp [H3.out, rtok, rend])

set_option maxRecDepth 100000 in
set_option maxHeartbeats 400000 in
theorem resc_dig (w : World) (A : Option Addr) (c : Nat) (p : List UInt8) (k : Nat) (hr : RdB w w.heap.size A p) (hs : p.length ≤ 1024) (x : Int) (hx : ∃ h : k + 1 < p.length, (p[k + 1].toNat : Int) = x) (h1 : x ≠ 100 ∧ x ≠ 119 ∧ x ≠ 115 ∧ x ≠ 68 ∧ x ≠ 87 ∧ x ≠ 83) (h2 : x ≠ 110 ∧ x ≠ 114 ∧ x ≠ 116 ∧ x ≠ 120) (h3 : letM x = false) (h4 : digM x = true) :
    Calls Try.prog 66 #[.slice A p.length c, .int .i64 k] w fun e w' => RTok w w' (escM p (k + 1)) e := by
  obtain ⟨k1, hk1⟩ : ∃ k1, k1 = k + 1 := ⟨_, rfl⟩
  obtain ⟨k2, hk2⟩ : ∃ k2, k2 = k1 + 1 := ⟨_, rfl⟩
  rw [← hk1]
  simp only [← hk1] at hx
  have hk' : k1 < p.length := hx.1
  obtain ⟨hx0, hx1⟩ : 0 ≤ x ∧ x ≤ 255 := by obtain ⟨h1, h2⟩ := hx; have := (p[k1]).toNat_lt; omega
  obtain ⟨ad, rfl⟩ : ∃ ad, A = some ad := by obtain ⟨ad, e, _⟩ := hr.at_ hk'; exact ⟨ad, e⟩
  have hM := Lib.hid (escM_at p k1 x (by obtain ⟨h1, h2⟩ := hx; rw [byteAt_lt p k1 h1, h2]))
  have hw1 : IntKind.i64.wrap ((k : Int) + 1) = (k1 : Int) := by rw [wrap_id _ (by omega) (by omega)]; omega
  have hw2 : IntKind.i64.wrap ((k : Int) + 2) = (k2 : Int) := by rw [wrap_id _ (by omega) (by omega)]; omega
  have hv1 : (k : Int) + 1 = (k1 : Int) := by omega
  have hv2 : (k : Int) + 2 = (k2 : Int) := by omega
  have hb0 := fun o => RdB.cell_ (Reads.alloc hr (Nat.le_refl _) o) hx
  have K0 := Lib.hid (KT.new w Tok.zero)
  have HK := Lib.hid hk2
  have HR := Lib.hid hr
  have hkn : k < 1024 := by omega
  clear hk1 hk2 hx hr
  have hE := Lib.hid (show escM p k1 = if letM x || digM x then none else some (Tok.ofByte x, k1 + 1) by rw [hM.out, if_neg (by omega), if_neg (by omega), if_neg (by omega), if_neg (by omega), if_neg (by omega), if_neg (by omega), if_neg (by omega), if_neg (by omega), if_neg (by omega), if_neg (by omega), if_neg (by omega)])
  clear hM
  have hM := hE
  clear hE
  obtain ⟨a1, a2, a3, a4, a5, a6⟩ := h1
  obtain ⟨a7, a8, a9, a10⟩ := h2
  have q0 : (x == 100) = false := beq_eq_false_iff_ne.2 a1
  have q1 : (x == 119) = false := beq_eq_false_iff_ne.2 a2
  have q2 : (x == 115) = false := beq_eq_false_iff_ne.2 a3
  have q3 : (x == 68) = false := beq_eq_false_iff_ne.2 a4
  have q4 : (x == 87) = false := beq_eq_false_iff_ne.2 a5
  have q5 : (x == 83) = false := beq_eq_false_iff_ne.2 a6
  have q6 : (x == 110) = false := beq_eq_false_iff_ne.2 a7
  have q7 : (x == 114) = false := beq_eq_false_iff_ne.2 a8
  have q8 : (x == 116) = false := beq_eq_false_iff_ne.2 a9
  have q9 : (x == 120) = false := beq_eq_false_iff_ne.2 a10
  clear a1 a2 a3 a4 a5 a6 a7 a8 a9 a10
  have H3 := Lib.hid h3
  have H4 := Lib.hid h4
  clear h3 h4
  go_enter Try.func66, Try.ntmps66
  refine shut_post fun E0 HQ => ?_
  go_wp2_with (first | (go_at_call 78; refine (rlet_any x _ (by omega) (by omega)).mono ?_; rintro e w3 ⟨rfl, rfl⟩; rw [H3.out]) | (go_at_call 79; refine (rdig_any x _ (by omega) (by omega)).mono ?_; rintro e w3 ⟨rfl, rfl⟩; rw [H4.out]))
  have FE := KT.new w (Tok.zero)
  simp only [Tok.cells, Tok.zero, Cl.zero] at FE
  refine HQ.out _ _ ?_
  refine tok_two (t := Tok.zero) rfl FE.1 rfl rfl (RTok.mk_ ?_ ?_ FE.2)
  all_goals (rw [hM.out]; simp [H4.out, rtok, rend])

set_option maxRecDepth 100000 in
set_option maxHeartbeats 400000 in
theorem resc_any1 (w : World) (A : Option Addr) (c : Nat) (p : List UInt8) (k : Nat) (hr : RdB w w.heap.size A p) (hs : p.length ≤ 1024) (x : Int) (hx : ∃ h : k + 1 < p.length, (p[k + 1].toNat : Int) = x) (h1 : x ≠ 100 ∧ x ≠ 119 ∧ x ≠ 115 ∧ x ≠ 68 ∧ x ≠ 87 ∧ x ≠ 83) (h2 : x ≠ 110 ∧ x ≠ 114 ∧ x ≠ 116 ∧ x ≠ 120) (h3 : letM x = false) (h4 : digM x = false) :
    Calls Try.prog 66 #[.slice A p.length c, .int .i64 k] w fun e w' => RTok w w' (escM p (k + 1)) e := by
  obtain ⟨k1, hk1⟩ : ∃ k1, k1 = k + 1 := ⟨_, rfl⟩
  obtain ⟨k2, hk2⟩ : ∃ k2, k2 = k1 + 1 := ⟨_, rfl⟩
  rw [← hk1]
  simp only [← hk1] at hx
  have hk' : k1 < p.length := hx.1
  obtain ⟨hx0, hx1⟩ : 0 ≤ x ∧ x ≤ 255 := by obtain ⟨h1, h2⟩ := hx; have := (p[k1]).toNat_lt; omega
  obtain ⟨ad, rfl⟩ : ∃ ad, A = some ad := by obtain ⟨ad, e, _⟩ := hr.at_ hk'; exact ⟨ad, e⟩
  have hM := Lib.hid (escM_at p k1 x (by obtain ⟨h1, h2⟩ := hx; rw [byteAt_lt p k1 h1, h2]))
  have hw1 : IntKind.i64.wrap ((k : Int) + 1) = (k1 : Int) := by rw [wrap_id _ (by omega) (by omega)]; omega
  have hw2 : IntKind.i64.wrap ((k : Int) + 2) = (k2 : Int) := by rw [wrap_id _ (by omega) (by omega)]; omega
  have hv1 : (k : Int) + 1 = (k1 : Int) := by omega
  have hv2 : (k : Int) + 2 = (k2 : Int) := by omega
  have hb0 := fun o => RdB.cell_ (Reads.alloc hr (Nat.le_refl _) o) hx
  have K0 := Lib.hid (KT.new w Tok.zero)
  have HK := Lib.hid hk2
  have HR := Lib.hid hr
  have hkn : k < 1024 := by omega
  clear hk1 hk2 hx hr
  have hE := Lib.hid (show escM p k1 = if letM x || digM x then none else some (Tok.ofByte x, k1 + 1) by rw [hM.out, if_neg (by omega), if_neg (by omega), if_neg (by omega), if_neg (by omega), if_neg (by omega), if_neg (by omega), if_neg (by omega), if_neg (by omega), if_neg (by omega), if_neg (by omega), if_neg (by omega)])
  clear hM
  have hM := hE
  clear hE
  obtain ⟨a1, a2, a3, a4, a5, a6⟩ := h1
  obtain ⟨a7, a8, a9, a10⟩ := h2
  have q0 : (x == 100) = false := beq_eq_false_iff_ne.2 a1
  have q1 : (x == 119) = false := beq_eq_false_iff_ne.2 a2
  have q2 : (x == 115) = false := beq_eq_false_iff_ne.2 a3
  have q3 : (x == 68) = false := beq_eq_false_iff_ne.2 a4
  have q4 : (x == 87) = false := beq_eq_false_iff_ne.2 a5
  have q5 : (x == 83) = false := beq_eq_false_iff_ne.2 a6
  have q6 : (x == 110) = false := beq_eq_false_iff_ne.2 a7
  have q7 : (x == 114) = false := beq_eq_false_iff_ne.2 a8
  have q8 : (x == 116) = false := beq_eq_false_iff_ne.2 a9
  have q9 : (x == 120) = false := beq_eq_false_iff_ne.2 a10
  clear a1 a2 a3 a4 a5 a6 a7 a8 a9 a10
  have H3 := Lib.hid h3
  have H4 := Lib.hid h4
  clear h3 h4
  go_enter Try.func66, Try.ntmps66
  refine shut_post fun E0 HQ => ?_
  go_wp2_with (first | (go_at_call 78; refine (rlet_any x _ (by omega) (by omega)).mono ?_; rintro e w3 ⟨rfl, rfl⟩; rw [H3.out]) | (go_at_call 79; refine (rdig_any x _ (by omega) (by omega)).mono ?_; rintro e w3 ⟨rfl, rfl⟩; rw [H4.out]) | (go_at_call 69; refine (abyte_any (x) _).mono ?_; rintro e w1 ⟨rfl, hb⟩; have K1 := Lib.hid (K0.out.step hb); clear hb; have hz1_1 := K1.out.1.cells; simp only [Tok.cells, Tok.zero, Cl.zero] at hz1_1; have hz1_2 := K1.out.1.frozens; simp only [Tok.v, Tok.ofByte, Tok.zero]))
  have FE := KT.fin K1.out (Tok.ofByte x)
  simp only [setN, Tok.list, Tok.ofByte, Tok.zero, Cl.zero, Nat.reduceAdd] at FE
  refine HQ.out _ _ ?_
  refine tok_two (t := Tok.ofByte x) rfl FE.1 rfl rfl (RTok.mk_ ?_ ?_ FE.2)
  all_goals (rw [hM.out]; simp [H3.out, H4.out, rtok, rend, HK.out])

set_option maxRecDepth 100000 in
set_option maxHeartbeats 400000 in
theorem resc_120s (w : World) (A : Option Addr) (c : Nat) (p : List UInt8) (k : Nat) (hr : RdB w w.heap.size A p) (hs : p.length ≤ 1024) (x : Int) (hx : ∃ h : k + 1 < p.length, (p[k + 1].toNat : Int) = x) (hc : x = 120) (hm : p.length ≤ k + 3) :
    Calls Try.prog 66 #[.slice A p.length c, .int .i64 k] w fun e w' => RTok w w' (escM p (k + 1)) e := by
  obtain ⟨k1, hk1⟩ : ∃ k1, k1 = k + 1 := ⟨_, rfl⟩
  obtain ⟨k2, hk2⟩ : ∃ k2, k2 = k1 + 1 := ⟨_, rfl⟩
  rw [← hk1]
  simp only [← hk1] at hx
  have hk' : k1 < p.length := hx.1
  obtain ⟨hx0, hx1⟩ : 0 ≤ x ∧ x ≤ 255 := by obtain ⟨h1, h2⟩ := hx; have := (p[k1]).toNat_lt; omega
  obtain ⟨ad, rfl⟩ : ∃ ad, A = some ad := by obtain ⟨ad, e, _⟩ := hr.at_ hk'; exact ⟨ad, e⟩
  have hM := Lib.hid (escM_at p k1 x (by obtain ⟨h1, h2⟩ := hx; rw [byteAt_lt p k1 h1, h2]))
  have hw1 : IntKind.i64.wrap ((k : Int) + 1) = (k1 : Int) := by rw [wrap_id _ (by omega) (by omega)]; omega
  have hw2 : IntKind.i64.wrap ((k : Int) + 2) = (k2 : Int) := by rw [wrap_id _ (by omega) (by omega)]; omega
  have hv1 : (k : Int) + 1 = (k1 : Int) := by omega
  have hv2 : (k : Int) + 2 = (k2 : Int) := by omega
  have hb0 := fun o => RdB.cell_ (Reads.alloc hr (Nat.le_refl _) o) hx
  have K0 := Lib.hid (KT.new w Tok.zero)
  have HK := Lib.hid hk2
  have HR := Lib.hid hr
  have hkn : k < 1024 := by omega
  clear hk1 hk2 hx hr
  subst hc
  have hMx := Lib.hid (show escM p k1 = hexM p k2 by rw [hM.out]; simp [HK.out])
  clear hM
  have hM := hMx
  clear hMx
  have hM0 := Lib.hid (show escM p k1 = none by rw [hM.out, hexM, show nibM (byteAt p (k2 + 1)) = none from by rw [byteAt_ge p (k2 + 1) (by have := HK.out; omega)]; decide]; cases nibM (byteAt p k2) <;> rfl)
  clear hM
  have hM := hM0
  clear hM0
  have hw3 : IntKind.i64.wrap ((k : Int) + 3) = (k : Int) + 3 := by rw [wrap_id _ (by omega) (by omega)]
  go_enter Try.func66, Try.ntmps66
  refine shut_post fun E0 HQ => ?_
  go_wp2_with (first | fail)
  have FE := KT.new w (Tok.zero)
  simp only [Tok.cells, Tok.zero, Cl.zero] at FE
  refine HQ.out _ _ ?_
  refine tok_two (t := Tok.zero) rfl FE.1 rfl rfl (RTok.mk_ ?_ ?_ FE.2)
  all_goals (rw [hM.out]; simp [rtok, rend])

set_option maxRecDepth 100000 in
set_option maxHeartbeats 400000 in
theorem resc_120a (w : World) (A : Option Addr) (c : Nat) (p : List UInt8) (k : Nat) (hr : RdB w w.heap.size A p) (hs : p.length ≤ 1024) (x : Int) (hx : ∃ h : k + 1 < p.length, (p[k + 1].toNat : Int) = x) (hc : x = 120) (hm : k + 3 < p.length) (hny : nibM (byteAt p (k + 2)) = none) :
    Calls Try.prog 66 #[.slice A p.length c, .int .i64 k] w fun e w' => RTok w w' (escM p (k + 1)) e := by
  obtain ⟨k1, hk1⟩ : ∃ k1, k1 = k + 1 := ⟨_, rfl⟩
  obtain ⟨k2, hk2⟩ : ∃ k2, k2 = k1 + 1 := ⟨_, rfl⟩
  rw [← hk1]
  simp only [← hk1] at hx
  have hk' : k1 < p.length := hx.1
  obtain ⟨hx0, hx1⟩ : 0 ≤ x ∧ x ≤ 255 := by obtain ⟨h1, h2⟩ := hx; have := (p[k1]).toNat_lt; omega
  obtain ⟨ad, rfl⟩ : ∃ ad, A = some ad := by obtain ⟨ad, e, _⟩ := hr.at_ hk'; exact ⟨ad, e⟩
  have hM := Lib.hid (escM_at p k1 x (by obtain ⟨h1, h2⟩ := hx; rw [byteAt_lt p k1 h1, h2]))
  have hw1 : IntKind.i64.wrap ((k : Int) + 1) = (k1 : Int) := by rw [wrap_id _ (by omega) (by omega)]; omega
  have hw2 : IntKind.i64.wrap ((k : Int) + 2) = (k2 : Int) := by rw [wrap_id _ (by omega) (by omega)]; omega
  have hv1 : (k : Int) + 1 = (k1 : Int) := by omega
  have hv2 : (k : Int) + 2 = (k2 : Int) := by omega
  have hb0 := fun o => RdB.cell_ (Reads.alloc hr (Nat.le_refl _) o) hx
  have K0 := Lib.hid (KT.new w Tok.zero)
  have HK := Lib.hid hk2
  have HR := Lib.hid hr
  have hkn : k < 1024 := by omega
  clear hk1 hk2 hx hr
  subst hc
  have hMx := Lib.hid (show escM p k1 = hexM p k2 by rw [hM.out]; simp [HK.out])
  clear hM
  have hM := hMx
  clear hMx
  obtain ⟨k3, hk3⟩ : ∃ k3, k3 = k2 + 1 := ⟨_, rfl⟩
  have hm3 : k3 < p.length := by have := HK.out; omega
  have hm2 : k2 < p.length := by have := HK.out; omega
  have hv3 : (k : Int) + 3 = (k3 : Int) := by have := HK.out; omega
  have hw3 : IntKind.i64.wrap ((k : Int) + 3) = (k3 : Int) := by rw [wrap_id _ (by omega) (by omega)]; have := HK.out; omega
  obtain ⟨y, hy⟩ : ∃ y, (p[k2].toNat : Int) = y := ⟨_, rfl⟩
  obtain ⟨z, hz⟩ : ∃ z, (p[k3].toNat : Int) = z := ⟨_, rfl⟩
  obtain ⟨hy0, hy1⟩ : 0 ≤ y ∧ y ≤ 255 := by have := (p[k2]).toNat_lt; omega
  obtain ⟨hz0, hz1⟩ : 0 ≤ z ∧ z ≤ 255 := by have := (p[k3]).toNat_lt; omega
  have hby := fun o => RdB.cell_ (Reads.alloc HR.out (Nat.le_refl _) o) ⟨hm2, hy⟩
  have hbz := fun o => RdB.cell_ (Reads.alloc HR.out (Nat.le_refl _) o) ⟨hm3, hz⟩
  have hMx := Lib.hid (show escM p k1 = match nibM y, nibM z with | some h, some l => some (Tok.ofByte (16 * h + l), k2 + 2) | _, _ => none by rw [hM.out, hexM, byteAt_lt p k2 hm2, hy, ← hk3, byteAt_lt p k3 hm3, hz]; rfl)
  clear hM
  have hM := hMx
  have HK3 := Lib.hid hk3
  have HY := Lib.hid hy
  have HZ := Lib.hid hz
  rw [show k + 2 = k2 from by have := HK.out; omega, byteAt_lt p k2 hm2, hy] at hny
  have HNy := Lib.hid (show hexV y = -1 by rw [hexV, hny]; rfl)
  have HMy := Lib.hid hny
  clear hny
  clear hMx hy hz hk3 hm
  go_enter Try.func66, Try.ntmps66
  refine shut_post fun E0 HQ => ?_
  go_wp2_with (first | (go_at_call_of 77 y; refine (rhex_any y _ (by omega) (by omega)).mono ?_; rintro e w3 ⟨rfl, rfl⟩; rw [HNy.out]))
  have FE := KT.new w (Tok.zero)
  simp only [Tok.cells, Tok.zero, Cl.zero] at FE
  refine HQ.out _ _ ?_
  refine tok_two (t := Tok.zero) rfl FE.1 rfl rfl (RTok.mk_ ?_ ?_ FE.2)
  all_goals (rw [hM.out]; simp [HMy.out, rtok, rend])

set_option maxRecDepth 100000 in
set_option maxHeartbeats 400000 in
theorem resc_120b (w : World) (A : Option Addr) (c : Nat) (p : List UInt8) (k : Nat) (hr : RdB w w.heap.size A p) (hs : p.length ≤ 1024) (x : Int) (hx : ∃ h : k + 1 < p.length, (p[k + 1].toNat : Int) = x) (hc : x = 120) (hm : k + 3 < p.length) (hh : Int) (hny : nibM (byteAt p (k + 2)) = some hh) (hnz : nibM (byteAt p (k + 3)) = none) :
    Calls Try.prog 66 #[.slice A p.length c, .int .i64 k] w fun e w' => RTok w w' (escM p (k + 1)) e := by
  obtain ⟨k1, hk1⟩ : ∃ k1, k1 = k + 1 := ⟨_, rfl⟩
  obtain ⟨k2, hk2⟩ : ∃ k2, k2 = k1 + 1 := ⟨_, rfl⟩
  rw [← hk1]
  simp only [← hk1] at hx
  have hk' : k1 < p.length := hx.1
  obtain ⟨hx0, hx1⟩ : 0 ≤ x ∧ x ≤ 255 := by obtain ⟨h1, h2⟩ := hx; have := (p[k1]).toNat_lt; omega
  obtain ⟨ad, rfl⟩ : ∃ ad, A = some ad := by obtain ⟨ad, e, _⟩ := hr.at_ hk'; exact ⟨ad, e⟩
  have hM := Lib.hid (escM_at p k1 x (by obtain ⟨h1, h2⟩ := hx; rw [byteAt_lt p k1 h1, h2]))
  have hw1 : IntKind.i64.wrap ((k : Int) + 1) = (k1 : Int) := by rw [wrap_id _ (by omega) (by omega)]; omega
  have hw2 : IntKind.i64.wrap ((k : Int) + 2) = (k2 : Int) := by rw [wrap_id _ (by omega) (by omega)]; omega
  have hv1 : (k : Int) + 1 = (k1 : Int) := by omega
  have hv2 : (k : Int) + 2 = (k2 : Int) := by omega
  have hb0 := fun o => RdB.cell_ (Reads.alloc hr (Nat.le_refl _) o) hx
  have K0 := Lib.hid (KT.new w Tok.zero)
  have HK := Lib.hid hk2
  have HR := Lib.hid hr
  have hkn : k < 1024 := by omega
  clear hk1 hk2 hx hr
  subst hc
  have hMx := Lib.hid (show escM p k1 = hexM p k2 by rw [hM.out]; simp [HK.out])
  clear hM
  have hM := hMx
  clear hMx
  obtain ⟨k3, hk3⟩ : ∃ k3, k3 = k2 + 1 := ⟨_, rfl⟩
  have hm3 : k3 < p.length := by have := HK.out; omega
  have hm2 : k2 < p.length := by have := HK.out; omega
  have hv3 : (k : Int) + 3 = (k3 : Int) := by have := HK.out; omega
  have hw3 : IntKind.i64.wrap ((k : Int) + 3) = (k3 : Int) := by rw [wrap_id _ (by omega) (by omega)]; have := HK.out; omega
  obtain ⟨y, hy⟩ : ∃ y, (p[k2].toNat : Int) = y := ⟨_, rfl⟩
  obtain ⟨z, hz⟩ : ∃ z, (p[k3].toNat : Int) = z := ⟨_, rfl⟩
  obtain ⟨hy0, hy1⟩ : 0 ≤ y ∧ y ≤ 255 := by have := (p[k2]).toNat_lt; omega
  obtain ⟨hz0, hz1⟩ : 0 ≤ z ∧ z ≤ 255 := by have := (p[k3]).toNat_lt; omega
  have hby := fun o => RdB.cell_ (Reads.alloc HR.out (Nat.le_refl _) o) ⟨hm2, hy⟩
  have hbz := fun o => RdB.cell_ (Reads.alloc HR.out (Nat.le_refl _) o) ⟨hm3, hz⟩
  have hMx := Lib.hid (show escM p k1 = match nibM y, nibM z with | some h, some l => some (Tok.ofByte (16 * h + l), k2 + 2) | _, _ => none by rw [hM.out, hexM, byteAt_lt p k2 hm2, hy, ← hk3, byteAt_lt p k3 hm3, hz]; rfl)
  clear hM
  have hM := hMx
  have HK3 := Lib.hid hk3
  have HY := Lib.hid hy
  have HZ := Lib.hid hz
  rw [show k + 2 = k2 from by have := HK.out; omega, byteAt_lt p k2 hm2, hy] at hny
  rw [show k + 3 = k3 from by have := HK.out; omega, byteAt_lt p k3 hm3, hz] at hnz
  have HNy := Lib.hid (show hexV y = hh by rw [hexV, hny]; rfl)
  have HMy := Lib.hid hny
  have hry := nib_range _ _ hny
  obtain ⟨hh0, hh1⟩ := hry
  clear hny
  have HNz := Lib.hid (show hexV z = -1 by rw [hexV, hnz]; rfl)
  have HMz := Lib.hid hnz
  clear hnz
  clear hMx hy hz hk3 hm
  go_enter Try.func66, Try.ntmps66
  refine shut_post fun E0 HQ => ?_
  go_wp2_with (first | (go_at_call_of 77 y; refine (rhex_any y _ (by omega) (by omega)).mono ?_; rintro e w3 ⟨rfl, rfl⟩; rw [HNy.out]) | (go_at_call_of 77 z; refine (rhex_any z _ (by omega) (by omega)).mono ?_; rintro e w3 ⟨rfl, rfl⟩; rw [HNz.out]))
  have FE := KT.new w (Tok.zero)
  simp only [Tok.cells, Tok.zero, Cl.zero] at FE
  refine HQ.out _ _ ?_
  refine tok_two (t := Tok.zero) rfl FE.1 rfl rfl (RTok.mk_ ?_ ?_ FE.2)
  all_goals (rw [hM.out]; simp [HMy.out, HMz.out, rtok, rend])

set_option maxRecDepth 100000 in
set_option maxHeartbeats 400000 in
theorem resc_120c (w : World) (A : Option Addr) (c : Nat) (p : List UInt8) (k : Nat) (hr : RdB w w.heap.size A p) (hs : p.length ≤ 1024) (x : Int) (hx : ∃ h : k + 1 < p.length, (p[k + 1].toNat : Int) = x) (hc : x = 120) (hm : k + 3 < p.length) (hh ll : Int) (hny : nibM (byteAt p (k + 2)) = some hh) (hnz : nibM (byteAt p (k + 3)) = some ll) :
    Calls Try.prog 66 #[.slice A p.length c, .int .i64 k] w fun e w' => RTok w w' (escM p (k + 1)) e := by
  obtain ⟨k1, hk1⟩ : ∃ k1, k1 = k + 1 := ⟨_, rfl⟩
  obtain ⟨k2, hk2⟩ : ∃ k2, k2 = k1 + 1 := ⟨_, rfl⟩
  rw [← hk1]
  simp only [← hk1] at hx
  have hk' : k1 < p.length := hx.1
  obtain ⟨hx0, hx1⟩ : 0 ≤ x ∧ x ≤ 255 := by obtain ⟨h1, h2⟩ := hx; have := (p[k1]).toNat_lt; omega
  obtain ⟨ad, rfl⟩ : ∃ ad, A = some ad := by obtain ⟨ad, e, _⟩ := hr.at_ hk'; exact ⟨ad, e⟩
  have hM := Lib.hid (escM_at p k1 x (by obtain ⟨h1, h2⟩ := hx; rw [byteAt_lt p k1 h1, h2]))
  have hw1 : IntKind.i64.wrap ((k : Int) + 1) = (k1 : Int) := by rw [wrap_id _ (by omega) (by omega)]; omega
  have hw2 : IntKind.i64.wrap ((k : Int) + 2) = (k2 : Int) := by rw [wrap_id _ (by omega) (by omega)]; omega
  have hv1 : (k : Int) + 1 = (k1 : Int) := by omega
  have hv2 : (k : Int) + 2 = (k2 : Int) := by omega
  have hb0 := fun o => RdB.cell_ (Reads.alloc hr (Nat.le_refl _) o) hx
  have K0 := Lib.hid (KT.new w Tok.zero)
  have HK := Lib.hid hk2
  have HR := Lib.hid hr
  have hkn : k < 1024 := by omega
  clear hk1 hk2 hx hr
  subst hc
  have hMx := Lib.hid (show escM p k1 = hexM p k2 by rw [hM.out]; simp [HK.out])
  clear hM
  have hM := hMx
  clear hMx
  obtain ⟨k3, hk3⟩ : ∃ k3, k3 = k2 + 1 := ⟨_, rfl⟩
  have hm3 : k3 < p.length := by have := HK.out; omega
  have hm2 : k2 < p.length := by have := HK.out; omega
  have hv3 : (k : Int) + 3 = (k3 : Int) := by have := HK.out; omega
  have hw3 : IntKind.i64.wrap ((k : Int) + 3) = (k3 : Int) := by rw [wrap_id _ (by omega) (by omega)]; have := HK.out; omega
  obtain ⟨y, hy⟩ : ∃ y, (p[k2].toNat : Int) = y := ⟨_, rfl⟩
  obtain ⟨z, hz⟩ : ∃ z, (p[k3].toNat : Int) = z := ⟨_, rfl⟩
  obtain ⟨hy0, hy1⟩ : 0 ≤ y ∧ y ≤ 255 := by have := (p[k2]).toNat_lt; omega
  obtain ⟨hz0, hz1⟩ : 0 ≤ z ∧ z ≤ 255 := by have := (p[k3]).toNat_lt; omega
  have hby := fun o => RdB.cell_ (Reads.alloc HR.out (Nat.le_refl _) o) ⟨hm2, hy⟩
  have hbz := fun o => RdB.cell_ (Reads.alloc HR.out (Nat.le_refl _) o) ⟨hm3, hz⟩
  have hMx := Lib.hid (show escM p k1 = match nibM y, nibM z with | some h, some l => some (Tok.ofByte (16 * h + l), k2 + 2) | _, _ => none by rw [hM.out, hexM, byteAt_lt p k2 hm2, hy, ← hk3, byteAt_lt p k3 hm3, hz]; rfl)
  clear hM
  have hM := hMx
  have HK3 := Lib.hid hk3
  have HY := Lib.hid hy
  have HZ := Lib.hid hz
  rw [show k + 2 = k2 from by have := HK.out; omega, byteAt_lt p k2 hm2, hy] at hny
  rw [show k + 3 = k3 from by have := HK.out; omega, byteAt_lt p k3 hm3, hz] at hnz
  have HNy := Lib.hid (show hexV y = hh by rw [hexV, hny]; rfl)
  have HMy := Lib.hid hny
  have hry := nib_range _ _ hny
  obtain ⟨hh0, hh1⟩ := hry
  clear hny
  have HNz := Lib.hid (show hexV z = ll by rw [hexV, hnz]; rfl)
  have HMz := Lib.hid hnz
  have hrz := nib_range _ _ hnz
  obtain ⟨ll0, ll1⟩ := hrz
  clear hnz
  have hx2 : IntKind.i64.wrap (k2 : Int) = (k2 : Int) := wrap_id _ (by omega) (by omega)
  have hx3 : IntKind.i64.wrap (k3 : Int) = (k3 : Int) := wrap_id _ (by omega) (by omega)
  have hx5 : IntKind.i64.wrap ((k2 : Int) + 2) = (k2 : Int) + 2 := wrap_id _ (by omega) (by omega)
  have hx4 : IntKind.i64.wrap ((k2 + 2 : Nat) : Int) = ((k2 + 2 : Nat) : Int) := wrap_id _ (by omega) (by omega)
  have hi2 : (k2 : Int) < (p.length : Int) := by omega
  have hi3 : (k3 : Int) < (p.length : Int) := by omega
  have hj2 : (0 : Int) ≤ (k2 : Int) := by omega
  have hj3 : (0 : Int) ≤ (k3 : Int) := by omega
  have hv4 : (k : Int) + 4 = ((k2 + 2 : Nat) : Int) := by have := HK.out; omega
  have hw4 : IntKind.i64.wrap ((k : Int) + 4) = ((k2 + 2 : Nat) : Int) := by rw [wrap_id _ (by omega) (by omega)]; have := HK.out; omega
  have hm16 : IntKind.i64.wrap (16 * hh) = 16 * hh := by rw [wrap_id _ (by omega) (by omega)]
  have hma : IntKind.i64.wrap (16 * hh + ll) = 16 * hh + ll := by rw [wrap_id _ (by omega) (by omega)]
  have hmc : IntKind.u8.wrap (16 * hh + ll) = 16 * hh + ll := by unfold IntKind.wrap; simp [IntKind.bits, IntKind.signed]; omega
  clear hMx hy hz hk3 hm
  go_enter Try.func66, Try.ntmps66
  refine shut_post fun E0 HQ => ?_
  go_upto_region 25 with (first | (go_at_call_of 77 y; refine (rhex_any y _ (by omega) (by omega)).mono ?_; rintro e w3 ⟨rfl, rfl⟩; rw [HNy.out]) | (go_at_call_of 77 z; refine (rhex_any z _ (by omega) (by omega)).mono ?_; rintro e w3 ⟨rfl, rfl⟩; rw [HNz.out]))
  clear hby hbz hb0
  have s1 := RdB.cell_ (Reads.alloc HR.out (Nat.le_refl _) (.cells Tok.zero.cells 49)) ⟨hm2, HY.out⟩
  have s2 := RdB.cell_ (Reads.alloc HR.out (Nat.le_refl _) (.cells Tok.zero.cells 49)) ⟨hm3, HZ.out⟩
  have hadB := Lib.hid (show ad.block < w.heap.size by obtain ⟨ad', e, hb, _⟩ := HR.out.at_ hm2; injection e with e; subst e; exact hb)
  simp only [Tok.cells, Tok.zero, Cl.zero] at s1 s2
  have s3 := fun o => (show (w.alloc o).drew.cell? (ad.add k2) = _ from RdB.cell_ (Reads.alloc HR.out (Nat.le_refl _) o) ⟨hm2, HY.out⟩)
  have s4 := fun o => (show (w.alloc o).drew.cell? (ad.add k3) = _ from RdB.cell_ (Reads.alloc HR.out (Nat.le_refl _) o) ⟨hm3, HZ.out⟩)
  go_region_held3 (fun W => W.cell? (ad.add k2) = some (.int .u8 y) ∧ W.cell? (ad.add k3) = some (.int .u8 z))
    ((go_split_ands; (repeat' apply And.intro) <;> first | with_reducible assumption | with_reducible exact s3 _ | with_reducible exact s4 _ | (with_reducible (refine cell_old ?_ hadB.out); (repeat (with_reducible refine cell_old ?_ hadB.out)); with_reducible assumption) | exact cell_keep (by with_reducible assumption) (by with_reducible assumption)))
    (first | (go_at_call 69; refine (abyte_any (16 * hh + ll) _).mono ?_; rintro e w1 ⟨rfl, hb⟩; have K1 := Lib.hid ((KT.drewN K0.out _).step hb); have hz1_1 := K1.out.1.cells; simp only [Tok.cells, Tok.zero, Cl.zero] at hz1_1; have hz1_2 := K1.out.1.frozens; simp only [Tok.v, Tok.ofByte, Tok.zero]) | (go_at_call_of 77 y; refine (rhex_any y _ (by omega) (by omega)).mono ?_; rintro e w3 ⟨rfl, rfl⟩; rw [HNy.out]) | (go_at_call_of 77 z; refine (rhex_any z _ (by omega) (by omega)).mono ?_; rintro e w3 ⟨rfl, rfl⟩; rw [HNz.out]))
  all_goals
    go_wp2
    have FE := KT.fin K1.out (Tok.ofByte (16 * hh + ll))
    simp only [setN, Tok.list, Tok.ofByte, Tok.zero, Cl.zero, Nat.reduceAdd] at FE
    refine HQ.out _ _ ?_
    refine tok_two (t := Tok.ofByte (16 * hh + ll)) rfl FE.1 rfl rfl (RTok.mk_ ?_ ?_ FE.2)
    all_goals (rw [hM.out]; simp [HMy.out, HMz.out, rtok, rend])

set_option maxRecDepth 100000 in
set_option maxHeartbeats 400000 in
theorem resc_none (w : World) (A : Option Addr) (c : Nat) (p : List UInt8) (k : Nat) (hs : p.length ≤ 1024) (hk : k ≤ p.length) (hx : p.length ≤ k + 1) :
    Calls Try.prog 66 #[.slice A p.length c, .int .i64 k] w fun e w' => RTok w w' (escM p (k + 1)) e := by
  have hM := Lib.hid (show escM p (k + 1) = none by rw [escM_at p (k + 1) (-1) (byteAt_ge p (k + 1) hx)]; rfl)
  have hxi : (p.length : Int) ≤ (k : Int) + 1 := by omega
  go_enter Try.func66, Try.ntmps66
  refine shut_post fun E0 HQ => ?_
  go_wp2
  have FE := KT.new w (Tok.zero)
  simp only [Tok.cells, Tok.zero, Cl.zero] at FE
  refine HQ.out _ _ ?_
  refine tok_two (t := Tok.zero) rfl FE.1 rfl rfl (RTok.mk_ ?_ ?_ FE.2)
  all_goals (rw [hM.out]; simp [rtok, rend])

theorem resc_any (w : World) (A : Option Addr) (c : Nat) (p : List UInt8) (k : Nat) (hr : RdB w w.heap.size A p) (hs : p.length ≤ 1024) (hk : k ≤ p.length) :
    Calls Try.prog 66 #[.slice A p.length c, .int .i64 k] w fun e w' => RTok w w' (escM p (k + 1)) e := by
  by_cases hx : p.length ≤ k + 1
  · exact resc_none w A c p k hs hk hx
  obtain ⟨x, hx⟩ : ∃ x, ∃ h : k + 1 < p.length, (p[k + 1].toNat : Int) = x := ⟨_, by omega, rfl⟩
  by_cases c100 : x = 100
  · exact resc_100 w A c p k hr hs x hx c100
  by_cases c119 : x = 119
  · exact resc_119 w A c p k hr hs x hx c119
  by_cases c115 : x = 115
  · exact resc_115 w A c p k hr hs x hx c115
  by_cases c68 : x = 68
  · exact resc_68 w A c p k hr hs x hx c68
  by_cases c87 : x = 87
  · exact resc_87 w A c p k hr hs x hx c87
  by_cases c83 : x = 83
  · exact resc_83 w A c p k hr hs x hx c83
  by_cases c110 : x = 110
  · exact resc_110 w A c p k hr hs x hx c110
  by_cases c114 : x = 114
  · exact resc_114 w A c p k hr hs x hx c114
  by_cases c116 : x = 116
  · exact resc_116 w A c p k hr hs x hx c116
  by_cases c120 : x = 120
  · by_cases hm : k + 3 < p.length
    · rcases hy : nibM (byteAt p (k + 2)) with _ | hh
      · exact resc_120a w A c p k hr hs x hx c120 hm hy
      · rcases hz : nibM (byteAt p (k + 3)) with _ | ll
        · exact resc_120b w A c p k hr hs x hx c120 hm hh hy hz
        · exact resc_120c w A c p k hr hs x hx c120 hm hh ll hy hz
    · exact resc_120s w A c p k hr hs x hx c120 (by omega)
  rcases h3 : letM x with _ | _
  · rcases h4 : digM x with _ | _
    · exact resc_any1 w A c p k hr hs x hx ⟨c100, c119, c115, c68, c87, c83⟩ ⟨c110, c114, c116, c120⟩ h3 h4
    · exact resc_dig w A c p k hr hs x hx ⟨c100, c119, c115, c68, c87, c83⟩ ⟨c110, c114, c116, c120⟩ h3 h4
  · exact resc_let w A c p k hr hs x hx ⟨c100, c119, c115, c68, c87, c83⟩ ⟨c110, c114, c116, c120⟩ h3

theorem runit_any (w : World) (A : Option Addr) (c : Nat) (p : List UInt8) (k : Nat) (hr : RdB w w.heap.size A p) (hs : p.length ≤ 1024) (hk : k < p.length) :
    Calls Try.prog 80 #[.slice A p.length c, .int .i64 k] w fun e w' => RTok w w' (unitM p k) e := by
  obtain ⟨x, hx⟩ : ∃ x, (p[k].toNat : Int) = x := ⟨_, rfl⟩
  obtain ⟨hx0, hx1⟩ : 0 ≤ x ∧ x ≤ 255 := by have := (p[k]).toNat_lt; omega
  obtain ⟨ad, rfl⟩ : ∃ ad, A = some ad := by obtain ⟨ad, e, _⟩ := hr.at_ hk; exact ⟨ad, e⟩
  have hM := Lib.hid (show unitM p k = if x = 92 then escM p (k + 1) else some (Tok.ofByte x, k + 1) by unfold unitM; rw [byteAt_lt p k hk, hx])
  obtain ⟨k1, hk1⟩ : ∃ k1, k1 = k + 1 := ⟨_, rfl⟩
  have hv1 : (k : Int) + 1 = (k1 : Int) := by omega
  have hw1 : IntKind.i64.wrap ((k : Int) + 1) = (k1 : Int) := by rw [wrap_id _ (by omega) (by omega)]; omega
  have hb0 := fun o => RdB.cell_ (Reads.alloc hr (Nat.le_refl _) o) ⟨hk, hx⟩
  have HR := Lib.hid (Reads.alloc hr (Nat.le_refl _) (.cells Tok.zero.cells 49))
  have K0 := Lib.hid (KT.new w Tok.zero)
  have HK := Lib.hid hk1
  clear hr hk1 hx
  by_cases hb : x = 92
  · subst hb
    go_enter Try.func80, Try.ntmps80
    refine shut_post fun E0 HQ => ?_
    go_wp2_with (go_at_call 66; refine (resc_any _ (some ad) c p k (Reads.more HR.out (by rw [World.size_alloc]; omega)) hs (by omega)).mono ?_; rintro e w1 ⟨rfl, hb⟩; have K1 := Lib.hid (K0.out.step hb); clear hb; have hz1_1 := K1.out.1.cells; simp only [Tok.cells, Tok.zero, Cl.zero] at hz1_1; have hz1_2 := K1.out.1.frozens; unfold Tok.v)
    have FE := KT.fin K1.out (rtok (escM p (k + 1)))
    simp only [setN, Tok.list, Nat.reduceAdd] at FE
    refine HQ.out _ _ ?_
    refine tok_two (t := rtok (escM p (k + 1))) rfl FE.1 rfl rfl (RTok.mk_ ?_ ?_ FE.2)
    all_goals (rw [hM.out]; simp)
  · have hbb : (x == 92) = false := beq_eq_false_iff_ne.2 hb
    have HB := Lib.hid hb
    clear hb
    go_enter Try.func80, Try.ntmps80
    refine shut_post fun E0 HQ => ?_
    go_wp2_with (go_at_call 69; refine (abyte_any x _).mono ?_; rintro e w1 ⟨rfl, hb⟩; have K1 := Lib.hid (K0.out.step hb); clear hb; have hz1_1 := K1.out.1.cells; simp only [Tok.cells, Tok.zero, Cl.zero] at hz1_1; have hz1_2 := K1.out.1.frozens; simp only [Tok.v, Tok.ofByte, Tok.zero])
    have FE := KT.fin K1.out (Tok.ofByte x)
    simp only [setN, Tok.list, Tok.ofByte, Tok.zero, Cl.zero, Nat.reduceAdd] at FE
    refine HQ.out _ _ ?_
    refine tok_two (t := Tok.ofByte x) rfl FE.1 rfl rfl (RTok.mk_ ?_ ?_ FE.2)
    all_goals (rw [hM.out, if_neg HB.out]; simp [rtok, rend, HK.out])
end Go.Proofs.Ytkfjnllbjlndlaa
