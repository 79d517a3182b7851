/- The lexer's unit and number. -/
import Derived.Test.YtkfjnllbjlndlaaLxD
namespace Go.Proofs.Ytkfjnllbjlndlaa
open Go.RowKit

set_option maxRecDepth 100000 in
set_option maxHeartbeats 400000 in
theorem unit_any (w : World) (g B : Nat) (A : Option Addr) (c : Nat) (p : List UInt8) (k : Nat) (h : Lx w g B A c p k) (hk' : k < p.length) :
    Calls Try.prog 60 #[.pointer (some ⟨g, 0, none⟩)] w fun e w' => TokRes w' g B A c p (unitM p k) e ∧ Only g w w' := by
  have H := Lib.hid h
  have hs := h.small
  have hk := h.at_
  have hne := h.x.lt
  obtain ⟨x, hx⟩ : ∃ x, (p[k].toNat : Int) = x := ⟨_, rfl⟩
  have hx01 : 0 ≤ x ∧ x ≤ 255 := by have := (p[k]).toNat_lt; omega
  obtain ⟨hx0, hx1⟩ := hx01
  obtain ⟨ad, rfl⟩ : ∃ ad, A = some ad := by obtain ⟨ad, e, _⟩ := h.r.at_ hk'; exact ⟨ad, e⟩
  have hM := Lib.hid (show unitM p k = if x = 92 then escM p (k + 1) else some (Tok.ofByte x, k + 1) by unfold unitM; rw [byteAt_lt p k hk', hx])
  obtain ⟨k1, hk1⟩ : ∃ k1, k1 = k + 1 := ⟨_, rfl⟩
  have hw1 : IntKind.i64.wrap ((k : Int) + 1) = (k1 : Int) := by rw [wrap_id _ (by omega) (by omega)]; omega
  have HK := Lib.hid hk1
  have hb0 := fun o => (h.alloc o).r.cell_ ⟨hk', hx⟩
  have hc1 := fun o => (h.alloc o).x.cells
  have hf1 := fun o => (h.alloc o).x.frozens
  have FF := Lib.hid (Fr.new h Tok.zero.cells)
  clear hk1 h hx
  by_cases hb : x = 92
  · have HB := Lib.hid hb
    have hbb : (x == 92) = true := by simpa using hb
    clear hb
    go_enter Try.func60, Try.ntmps60
    go_wp2
    go_quiet (fail)
    go_wp2_with (first | (go_at_call 43; have hst := fun n => (FF.out.drewN n).step k1 (by have := HK.out; omega); refine (escape_any _ g B (some ad) c p k1 (hst _).l).mono ?_; rintro e w6 ⟨hres, ho⟩; obtain ⟨t6, k6, b6, rfl, hl6, ho6⟩ := hres.out; have F6 := Lib.hid ((hst _).only ho hl6); have hz1 := F6.out.z.cells; simp only [Tok.cells, Tok.zero, Cl.zero] at hz1; have hz2 := F6.out.z.frozens; have HO := Lib.hid ho6; clear hres ho hl6 ho6 hst; unfold Tok.v))
    have FE := F6.out.fin (t := t6)
    simp only [setN, Tok.list, Nat.reduceAdd] at FE
    refine tok_end rfl FE.z rfl rfl ⟨?_, FE.o⟩
    refine TokRes.mk_ ?_ FE.l
    rw [hM.out, if_pos HB.out, ← HO.out, HK.out]
  · have HB := Lib.hid hb
    have hbb : (x == 92) = false := by simpa using hb
    clear hb
    go_enter Try.func60, Try.ntmps60
    go_wp2
    go_quiet (fail)
    go_wp2
    have FE := fun n => ((FF.out.drewN n).step k1 (by have := HK.out; omega)).fin (t := Tok.ofByte x)
    simp only [setN, Tok.list, Tok.ofByte, Tok.zero, Tok.cells, Cl.zero, Nat.reduceAdd] at FE
    refine tok_end (t := Tok.ofByte x) rfl (FE _).z rfl rfl ⟨?_, (FE _).o⟩
    refine TokRes.mk_ ?_ (FE _).l
    rw [hM.out, if_neg HB.out, HK.out]
    rfl
end Go.Proofs.Ytkfjnllbjlndlaa
