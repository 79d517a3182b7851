/- The reference's repeat. -/
import Derived.Test.YtkfjnllbjlndlaaRcD
import Derived.Deep.CutBlock
namespace Go.Proofs.Ytkfjnllbjlndlaa
open Go.RowKit

/-- A result token and one more block of the call's own. -/
structure R2 (w W : World) (T : TypeId) (cs : Array Value) : Prop where
  z : KT w W Tok.zero
  b : Bk W (w.heap.size + 1) T cs
section
variable {w W W' : World} {T : TypeId} {cs : Array Value}
theorem R2.new (w : World) (T : TypeId) (cs : Array Value) : R2 w ((w.alloc (.cells Tok.zero.cells 49)).alloc (.cells cs T)) T cs := ⟨Kp.alloc (KT.new w Tok.zero) _, Bk.at_new _ _ _ _ (by simp)⟩
theorem R2.step (h : R2 w W T cs) (hb : Below W.heap.size W W') : R2 w W' T cs := ⟨Kp.step h.z hb, h.b.kept hb⟩
theorem R2.alloc (h : R2 w W T cs) (o : Obj) : R2 w (W.alloc o) T cs := ⟨Kp.alloc h.z o, h.b.alloc o⟩
theorem R2.drewN (h : R2 w W T cs) (n : Nat) : R2 w (W.drewN n) T cs := ⟨KT.drewN h.z n, h.b.drewN n⟩
theorem R2.put (h : R2 w W T cs) (vs : List Value) (hl : cs.size = vs.length := by rfl) : R2 w (setN W (w.heap.size + 1) 0 vs) T vs.toArray :=
  ⟨⟨h.z.1.farN vs 0 (by omega), below_setN vs h.z.2 0 (by omega)⟩, h.b.putN vs hl⟩
theorem R2.set (h : R2 w W T cs) (i : Nat) (v : Value) : R2 w (W.setCell ⟨w.heap.size + 1, i, none⟩ v) T (cs.setIfInBounds i v) :=
  ⟨⟨h.z.1.far (p := ⟨w.heap.size + 1, i, none⟩) (by simp) v, h.z.2.setCell (p := ⟨w.heap.size + 1, i, none⟩) (by simp) v⟩, h.b.set i v⟩
theorem R2.fin (h : R2 w W T cs) (t : Tok) : KT w (setN W w.heap.size 0 t.list) t := KT.fin h.z t
theorem R2.set_t {t : Tok} (h : R2 w W 49 t.cells) (i : Nat) (v : Value) {t' : Tok} (ht : t.cells.setIfInBounds i v = t'.cells) : R2 w (W.setCell ⟨w.heap.size + 1, i, none⟩ v) 49 t'.cells := ht ▸ h.set i v
end
theorem set_lz (t : Tok) (b : Bool) : t.cells.setIfInBounds 9 (.bool b) = ({ t with lazy := b } : Tok).cells := by simp [Tok.cells]
theorem cntM_form' (p : List UInt8) (k : Nat) (t : Tok) (k' : Nat) (h : cntM p k = some (t, k')) : ∃ ln mn, t = { Tok.zero with kind := 7, least := ln, most := mn } := by
  unfold cntM at h
  repeat' split at h
  all_goals first
    | (cases h; done)
    | (injection h with h; injection h with h h'; subst h; exact ⟨_, _, rfl⟩)

def repB (p : List UInt8) (k : Nat) (x : Int) : Option (Tok × Nat) :=
  if x = 43 then some ({ Tok.zero with kind := 7, least := 1, most := -1 }, k + 1)
  else if x = 42 then some ({ Tok.zero with kind := 7, least := 0, most := -1 }, k + 1)
  else if x = 63 then some ({ Tok.zero with kind := 7, least := 0, most := 1 }, k + 1)
  else cntM p (k + 1)
def repM (p : List UInt8) (k : Nat) (x : Int) : Option (Tok × Nat) := match repB p k x with | none => none | some (t, k1) => if byteAt p k1 = 63 then some ({ t with lazy := true }, k1 + 1) else some (t, k1)

-- WALKS
set_option maxRecDepth 100000 in
set_option maxHeartbeats 800000 in
theorem rrep_43 (w : World) (A : Option Addr) (c : Nat) (p : List UInt8) (k : Nat) (hr : RdB w w.heap.size A p) (hs : p.length ≤ 1024) (x : Int) (hx : ∃ h : k < p.length, (p[k].toNat : Int) = x) (hc : x = 43) :
    Calls Try.prog 68 #[.slice A p.length c, .int .i64 k] w fun e w' => RTok w w' (repM p k x) e := by
  have hk : k < p.length := hx.1
  obtain ⟨ad, rfl⟩ : ∃ ad, A = some ad := by obtain ⟨ad, e, _⟩ := hr.at_ hk; exact ⟨ad, e⟩
  obtain ⟨k1, hk1⟩ : ∃ k1, k1 = k + 1 := ⟨_, rfl⟩
  have hv1 : (k : Int) + 1 = (k1 : Int) := by omega
  have hr0 := fun o o' => (Reads.more (Reads.alloc (Reads.alloc hr (Nat.le_refl _) o) (by rw [World.size_alloc]; omega) o') (by simp only [World.size_alloc]; omega) : RdB ((w.alloc o).alloc o') ((w.alloc o).alloc o').heap.size (some ad) p)
  have hb0 := fun o o' => RdB.cell_ (hr0 o o') hx
  have HR := Lib.hid hr0
  have HK := Lib.hid hk1
  have HRW := Lib.hid hr
  clear hr hk1 hr0
  subst hc
  have HB := Lib.hid (show repB p k 43 = some ({ Tok.zero with kind := 7, least := 1, most := -1 }, k1) by rw [HK.out]; rfl)
  go_enter Try.func68, Try.ntmps68
  refine shut_post fun E0 HQ => ?_
  by_cases hl : k1 < p.length
  · obtain ⟨y, hy⟩ : ∃ y, (p[k1].toNat : Int) = y := ⟨_, rfl⟩
    have hby := fun o o' => RdB.cell_ (HR.out o o') ⟨hl, hy⟩
    have HY := Lib.hid (show byteAt p k1 = y by rw [byteAt_lt p k1 hl, hy])
    obtain ⟨K1, hK1⟩ : ∃ K1, K1 = k1 + 1 := ⟨_, rfl⟩
    have hvK : (k1 : Int) + 1 = (K1 : Int) := by omega
    have HK1 := Lib.hid hK1
    clear hy hK1
    by_cases h63 : y = 63
    · subst h63
      go_wp2_with fail
      have FE := fun o => Kp.alloc (KT.new w ({ Tok.zero with kind := 7, least := 1, most := -1, lazy := true })) o
      simp only [Tok.cells, Tok.zero, Cl.zero] at FE
      refine HQ.out _ _ ?_
      refine tok_two (t := { Tok.zero with kind := 7, least := 1, most := -1, lazy := true }) rfl (FE _).1 rfl rfl (RTok.mk_ ?_ ?_ (FE _).2)
      all_goals (unfold repM; rw [HB.out]; simp only; rw [if_pos HY.out]; simp [rtok, rend, HK1.out])
    · have h63b : (y == 63) = false := beq_eq_false_iff_ne.2 h63
      have H63 := Lib.hid h63
      clear h63
      go_wp2_with fail
      have FE := fun o => Kp.alloc (KT.new w ({ Tok.zero with kind := 7, least := 1, most := -1 })) o
      simp only [Tok.cells, Tok.zero, Cl.zero] at FE
      refine HQ.out _ _ ?_
      refine tok_two (t := { Tok.zero with kind := 7, least := 1, most := -1 }) rfl (FE _).1 rfl rfl (RTok.mk_ ?_ ?_ (FE _).2)
      all_goals (unfold repM; rw [HB.out]; simp only; rw [if_neg (by rw [HY.out]; exact H63.out)]; simp [rtok, rend])
  · have HY := Lib.hid (show byteAt p k1 = -1 by rw [byteAt_ge p k1 (by omega)])
    go_wp2_with fail
    have FE := fun o => Kp.alloc (KT.new w ({ Tok.zero with kind := 7, least := 1, most := -1 })) o
    simp only [Tok.cells, Tok.zero, Cl.zero] at FE
    refine HQ.out _ _ ?_
    refine tok_two (t := { Tok.zero with kind := 7, least := 1, most := -1 }) rfl (FE _).1 rfl rfl (RTok.mk_ ?_ ?_ (FE _).2)
    all_goals (unfold repM; rw [HB.out]; simp only; rw [if_neg (by rw [HY.out]; decide)]; simp [rtok, rend])

set_option maxRecDepth 100000 in
set_option maxHeartbeats 800000 in
theorem rrep_42 (w : World) (A : Option Addr) (c : Nat) (p : List UInt8) (k : Nat) (hr : RdB w w.heap.size A p) (hs : p.length ≤ 1024) (x : Int) (hx : ∃ h : k < p.length, (p[k].toNat : Int) = x) (hc : x = 42) :
    Calls Try.prog 68 #[.slice A p.length c, .int .i64 k] w fun e w' => RTok w w' (repM p k x) e := by
  have hk : k < p.length := hx.1
  obtain ⟨ad, rfl⟩ : ∃ ad, A = some ad := by obtain ⟨ad, e, _⟩ := hr.at_ hk; exact ⟨ad, e⟩
  obtain ⟨k1, hk1⟩ : ∃ k1, k1 = k + 1 := ⟨_, rfl⟩
  have hv1 : (k : Int) + 1 = (k1 : Int) := by omega
  have hr0 := fun o o' => (Reads.more (Reads.alloc (Reads.alloc hr (Nat.le_refl _) o) (by rw [World.size_alloc]; omega) o') (by simp only [World.size_alloc]; omega) : RdB ((w.alloc o).alloc o') ((w.alloc o).alloc o').heap.size (some ad) p)
  have hb0 := fun o o' => RdB.cell_ (hr0 o o') hx
  have HR := Lib.hid hr0
  have HK := Lib.hid hk1
  have HRW := Lib.hid hr
  clear hr hk1 hr0
  subst hc
  have HB := Lib.hid (show repB p k 42 = some ({ Tok.zero with kind := 7, least := 0, most := -1 }, k1) by rw [HK.out]; rfl)
  go_enter Try.func68, Try.ntmps68
  refine shut_post fun E0 HQ => ?_
  by_cases hl : k1 < p.length
  · obtain ⟨y, hy⟩ : ∃ y, (p[k1].toNat : Int) = y := ⟨_, rfl⟩
    have hby := fun o o' => RdB.cell_ (HR.out o o') ⟨hl, hy⟩
    have HY := Lib.hid (show byteAt p k1 = y by rw [byteAt_lt p k1 hl, hy])
    obtain ⟨K1, hK1⟩ : ∃ K1, K1 = k1 + 1 := ⟨_, rfl⟩
    have hvK : (k1 : Int) + 1 = (K1 : Int) := by omega
    have HK1 := Lib.hid hK1
    clear hy hK1
    by_cases h63 : y = 63
    · subst h63
      go_wp2_with fail
      have FE := fun o => Kp.alloc (KT.new w ({ Tok.zero with kind := 7, least := 0, most := -1, lazy := true })) o
      simp only [Tok.cells, Tok.zero, Cl.zero] at FE
      refine HQ.out _ _ ?_
      refine tok_two (t := { Tok.zero with kind := 7, least := 0, most := -1, lazy := true }) rfl (FE _).1 rfl rfl (RTok.mk_ ?_ ?_ (FE _).2)
      all_goals (unfold repM; rw [HB.out]; simp only; rw [if_pos HY.out]; simp [rtok, rend, HK1.out])
    · have h63b : (y == 63) = false := beq_eq_false_iff_ne.2 h63
      have H63 := Lib.hid h63
      clear h63
      go_wp2_with fail
      have FE := fun o => Kp.alloc (KT.new w ({ Tok.zero with kind := 7, least := 0, most := -1 })) o
      simp only [Tok.cells, Tok.zero, Cl.zero] at FE
      refine HQ.out _ _ ?_
      refine tok_two (t := { Tok.zero with kind := 7, least := 0, most := -1 }) rfl (FE _).1 rfl rfl (RTok.mk_ ?_ ?_ (FE _).2)
      all_goals (unfold repM; rw [HB.out]; simp only; rw [if_neg (by rw [HY.out]; exact H63.out)]; simp [rtok, rend])
  · have HY := Lib.hid (show byteAt p k1 = -1 by rw [byteAt_ge p k1 (by omega)])
    go_wp2_with fail
    have FE := fun o => Kp.alloc (KT.new w ({ Tok.zero with kind := 7, least := 0, most := -1 })) o
    simp only [Tok.cells, Tok.zero, Cl.zero] at FE
    refine HQ.out _ _ ?_
    refine tok_two (t := { Tok.zero with kind := 7, least := 0, most := -1 }) rfl (FE _).1 rfl rfl (RTok.mk_ ?_ ?_ (FE _).2)
    all_goals (unfold repM; rw [HB.out]; simp only; rw [if_neg (by rw [HY.out]; decide)]; simp [rtok, rend])

set_option maxRecDepth 100000 in
set_option maxHeartbeats 800000 in
theorem rrep_63 (w : World) (A : Option Addr) (c : Nat) (p : List UInt8) (k : Nat) (hr : RdB w w.heap.size A p) (hs : p.length ≤ 1024) (x : Int) (hx : ∃ h : k < p.length, (p[k].toNat : Int) = x) (hc : x = 63) :
    Calls Try.prog 68 #[.slice A p.length c, .int .i64 k] w fun e w' => RTok w w' (repM p k x) e := by
  have hk : k < p.length := hx.1
  obtain ⟨ad, rfl⟩ : ∃ ad, A = some ad := by obtain ⟨ad, e, _⟩ := hr.at_ hk; exact ⟨ad, e⟩
  obtain ⟨k1, hk1⟩ : ∃ k1, k1 = k + 1 := ⟨_, rfl⟩
  have hv1 : (k : Int) + 1 = (k1 : Int) := by omega
  have hr0 := fun o o' => (Reads.more (Reads.alloc (Reads.alloc hr (Nat.le_refl _) o) (by rw [World.size_alloc]; omega) o') (by simp only [World.size_alloc]; omega) : RdB ((w.alloc o).alloc o') ((w.alloc o).alloc o').heap.size (some ad) p)
  have hb0 := fun o o' => RdB.cell_ (hr0 o o') hx
  have HR := Lib.hid hr0
  have HK := Lib.hid hk1
  have HRW := Lib.hid hr
  clear hr hk1 hr0
  subst hc
  have HB := Lib.hid (show repB p k 63 = some ({ Tok.zero with kind := 7, least := 0, most := 1 }, k1) by rw [HK.out]; rfl)
  go_enter Try.func68, Try.ntmps68
  refine shut_post fun E0 HQ => ?_
  by_cases hl : k1 < p.length
  · obtain ⟨y, hy⟩ : ∃ y, (p[k1].toNat : Int) = y := ⟨_, rfl⟩
    have hby := fun o o' => RdB.cell_ (HR.out o o') ⟨hl, hy⟩
    have HY := Lib.hid (show byteAt p k1 = y by rw [byteAt_lt p k1 hl, hy])
    obtain ⟨K1, hK1⟩ : ∃ K1, K1 = k1 + 1 := ⟨_, rfl⟩
    have hvK : (k1 : Int) + 1 = (K1 : Int) := by omega
    have HK1 := Lib.hid hK1
    clear hy hK1
    by_cases h63 : y = 63
    · subst h63
      go_wp2_with fail
      have FE := fun o => Kp.alloc (KT.new w ({ Tok.zero with kind := 7, least := 0, most := 1, lazy := true })) o
      simp only [Tok.cells, Tok.zero, Cl.zero] at FE
      refine HQ.out _ _ ?_
      refine tok_two (t := { Tok.zero with kind := 7, least := 0, most := 1, lazy := true }) rfl (FE _).1 rfl rfl (RTok.mk_ ?_ ?_ (FE _).2)
      all_goals (unfold repM; rw [HB.out]; simp only; rw [if_pos HY.out]; simp [rtok, rend, HK1.out])
    · have h63b : (y == 63) = false := beq_eq_false_iff_ne.2 h63
      have H63 := Lib.hid h63
      clear h63
      go_wp2_with fail
      have FE := fun o => Kp.alloc (KT.new w ({ Tok.zero with kind := 7, least := 0, most := 1 })) o
      simp only [Tok.cells, Tok.zero, Cl.zero] at FE
      refine HQ.out _ _ ?_
      refine tok_two (t := { Tok.zero with kind := 7, least := 0, most := 1 }) rfl (FE _).1 rfl rfl (RTok.mk_ ?_ ?_ (FE _).2)
      all_goals (unfold repM; rw [HB.out]; simp only; rw [if_neg (by rw [HY.out]; exact H63.out)]; simp [rtok, rend])
  · have HY := Lib.hid (show byteAt p k1 = -1 by rw [byteAt_ge p k1 (by omega)])
    go_wp2_with fail
    have FE := fun o => Kp.alloc (KT.new w ({ Tok.zero with kind := 7, least := 0, most := 1 })) o
    simp only [Tok.cells, Tok.zero, Cl.zero] at FE
    refine HQ.out _ _ ?_
    refine tok_two (t := { Tok.zero with kind := 7, least := 0, most := 1 }) rfl (FE _).1 rfl rfl (RTok.mk_ ?_ ?_ (FE _).2)
    all_goals (unfold repM; rw [HB.out]; simp only; rw [if_neg (by rw [HY.out]; decide)]; simp [rtok, rend])

set_option maxRecDepth 100000 in
set_option maxHeartbeats 800000 in
theorem rrep_123 (w : World) (A : Option Addr) (c : Nat) (p : List UInt8) (k : Nat) (hr : RdB w w.heap.size A p) (hs : p.length ≤ 1024) (x : Int) (hx : ∃ h : k < p.length, (p[k].toNat : Int) = x) (hc : x = 123) (ln mn : Int) (k2 : Nat) (hC : cntM p (k + 1) = some ({ Tok.zero with kind := 7, least := ln, most := mn }, k2)) (hk2 : 0 < k2) :
    Calls Try.prog 68 #[.slice A p.length c, .int .i64 k] w fun e w' => RTok w w' (repM p k x) e := by
  have hk : k < p.length := hx.1
  obtain ⟨ad, rfl⟩ : ∃ ad, A = some ad := by obtain ⟨ad, e, _⟩ := hr.at_ hk; exact ⟨ad, e⟩
  obtain ⟨k1, hk1⟩ : ∃ k1, k1 = k + 1 := ⟨_, rfl⟩
  have hv1 : (k : Int) + 1 = (k1 : Int) := by omega
  have hr0 := fun o o' => (Reads.more (Reads.alloc (Reads.alloc hr (Nat.le_refl _) o) (by rw [World.size_alloc]; omega) o') (by simp only [World.size_alloc]; omega) : RdB ((w.alloc o).alloc o') ((w.alloc o).alloc o').heap.size (some ad) p)
  have hb0 := fun o o' => RdB.cell_ (hr0 o o') hx
  have HR := Lib.hid hr0
  have HK := Lib.hid hk1
  have HRW := Lib.hid hr
  clear hr hk1 hr0
  subst hc
  have HB := Lib.hid (show repB p k 123 = some ({ Tok.zero with kind := 7, least := ln, most := mn }, k2) by unfold repB; simp [hC])
  have HKK := HK
  have HC := Lib.hid hC
  rw [← HK.out] at HC
  clear hC
  have hk2i : (0 : Int) < (k2 : Int) := by omega
  go_enter Try.func68, Try.ntmps68
  refine shut_post fun E0 HQ => ?_
  go_upto_block 0 with fail
  go_cut [7] from 8 to 28 (fun s7 wx => s7 = .int .i64 k2 ∧ R2 w wx 49 ({ Tok.zero with kind := 7, least := ln, most := mn } : Tok).cells)
  case first =>
    go_wp2_with (go_at_call 85; refine (rcnt_any _ (some ad) c p k (HR.out _ _) hs hk).mono ?_; rintro e w1 ⟨rfl, hb⟩; have F1 := Lib.hid ((R2.new w 49 ({ Tok.zero with kind := 7, most := -1 } : Tok).cells).step hb); clear hb; rw [← HKK.out, HC.out]; have hz1_1 := F1.out.z.1.cells; simp only [Tok.cells, Tok.zero, Cl.zero] at hz1_1; have hz1_2 := F1.out.z.1.frozens; have hy1_1 := F1.out.b.cells; simp only [Tok.cells, Tok.zero, Cl.zero] at hy1_1; have hy1_2 := F1.out.b.frozens; simp only [rtok, rend, Tok.v, Tok.zero, Cl.zero])
    have F2 := F1.out.put ({ Tok.zero with kind := 7, least := ln, most := mn } : Tok).list
    simp only [setN, Tok.list, Tok.zero, Cl.zero, Nat.reduceAdd] at F2
    go_meet
    exact ⟨rfl, F2⟩
  case rest =>
    obtain ⟨rfl, hF⟩ := hcut
    have F3 := Lib.hid hF
    clear hF
    have hz3_1 := F3.out.z.1.cells; simp only [Tok.cells, Tok.zero, Cl.zero] at hz3_1; have hz3_2 := F3.out.z.1.frozens; have hy3_1 := F3.out.b.cells; simp only [Tok.cells, Tok.zero, Cl.zero] at hy3_1; have hy3_2 := F3.out.b.frozens
    by_cases hl : k2 < p.length
    · obtain ⟨y, hy⟩ : ∃ y, (p[k2].toNat : Int) = y := ⟨_, rfl⟩
      have hby := RdB.cell_ (Reads.below HRW.out F3.out.z.2) ⟨hl, hy⟩
      have HY := Lib.hid (show byteAt p k2 = y by rw [byteAt_lt p k2 hl, hy])
      obtain ⟨K1, hK1⟩ : ∃ K1, K1 = k2 + 1 := ⟨_, rfl⟩
      have hvK : (k2 : Int) + 1 = (K1 : Int) := by omega
      have HK1 := Lib.hid hK1
      clear hy hK1
      by_cases h63 : y = 63
      · subst h63
        go_wp2_with fail
        have FE := (R2.set_t F3.out 9 (.bool true) (set_lz _ true)).fin ({ Tok.zero with kind := 7, least := ln, most := mn, lazy := true })
        simp only [setN, Tok.list, Tok.zero, Cl.zero, Nat.reduceAdd] at FE
        refine HQ.out _ _ ?_
        refine tok_two (t := { Tok.zero with kind := 7, least := ln, most := mn, lazy := true }) rfl FE.1 rfl rfl (RTok.mk_ ?_ ?_ FE.2)
        all_goals (unfold repM; rw [HB.out]; simp only; rw [if_pos HY.out]; simp [rtok, rend, HK1.out])
      · have h63b : (y == 63) = false := beq_eq_false_iff_ne.2 h63
        have H63 := Lib.hid h63
        clear h63
        go_wp2_with fail
        have FE := (F3.out).fin ({ Tok.zero with kind := 7, least := ln, most := mn })
        simp only [setN, Tok.list, Tok.zero, Cl.zero, Nat.reduceAdd] at FE
        refine HQ.out _ _ ?_
        refine tok_two (t := { Tok.zero with kind := 7, least := ln, most := mn }) rfl FE.1 rfl rfl (RTok.mk_ ?_ ?_ FE.2)
        all_goals (unfold repM; rw [HB.out]; simp only; rw [if_neg (by rw [HY.out]; exact H63.out)]; simp [rtok, rend])
    · have HY := Lib.hid (show byteAt p k2 = -1 by rw [byteAt_ge p k2 (by omega)])
      go_wp2_with fail
      have FE := (F3.out).fin ({ Tok.zero with kind := 7, least := ln, most := mn })
      simp only [setN, Tok.list, Tok.zero, Cl.zero, Nat.reduceAdd] at FE
      refine HQ.out _ _ ?_
      refine tok_two (t := { Tok.zero with kind := 7, least := ln, most := mn }) rfl FE.1 rfl rfl (RTok.mk_ ?_ ?_ FE.2)
      all_goals (unfold repM; rw [HB.out]; simp only; rw [if_neg (by rw [HY.out]; decide)]; simp [rtok, rend])

set_option maxRecDepth 100000 in
set_option maxHeartbeats 800000 in
theorem rrep_123n (w : World) (A : Option Addr) (c : Nat) (p : List UInt8) (k : Nat) (hr : RdB w w.heap.size A p) (hs : p.length ≤ 1024) (x : Int) (hx : ∃ h : k < p.length, (p[k].toNat : Int) = x) (hc : x = 123) (hC : cntM p (k + 1) = none) :
    Calls Try.prog 68 #[.slice A p.length c, .int .i64 k] w fun e w' => RTok w w' (repM p k x) e := by
  have hk : k < p.length := hx.1
  obtain ⟨ad, rfl⟩ : ∃ ad, A = some ad := by obtain ⟨ad, e, _⟩ := hr.at_ hk; exact ⟨ad, e⟩
  obtain ⟨k1, hk1⟩ : ∃ k1, k1 = k + 1 := ⟨_, rfl⟩
  have hv1 : (k : Int) + 1 = (k1 : Int) := by omega
  have hr0 := fun o o' => (Reads.more (Reads.alloc (Reads.alloc hr (Nat.le_refl _) o) (by rw [World.size_alloc]; omega) o') (by simp only [World.size_alloc]; omega) : RdB ((w.alloc o).alloc o') ((w.alloc o).alloc o').heap.size (some ad) p)
  have hb0 := fun o o' => RdB.cell_ (hr0 o o') hx
  have HR := Lib.hid hr0
  have HK := Lib.hid hk1
  have HRW := Lib.hid hr
  clear hr hk1 hr0
  subst hc
  have HB := Lib.hid (show repB p k 123 = none by unfold repB; simp [hC])
  have HKK := HK
  have HC := Lib.hid hC
  rw [← HK.out] at HC
  clear hC
  go_enter Try.func68, Try.ntmps68
  refine shut_post fun E0 HQ => ?_
  go_upto_block 0 with fail
  go_cut [7] from 8 to 28 (fun s7 wx => s7 = .int .i64 0 ∧ R2 w wx 49 Tok.zero.cells)
  case first =>
    go_wp2_with (go_at_call 85; refine (rcnt_any _ (some ad) c p k (HR.out _ _) hs hk).mono ?_; rintro e w1 ⟨rfl, hb⟩; have F1 := Lib.hid ((R2.new w 49 ({ Tok.zero with kind := 7, most := -1 } : Tok).cells).step hb); clear hb; rw [← HKK.out, HC.out]; have hz1_1 := F1.out.z.1.cells; simp only [Tok.cells, Tok.zero, Cl.zero] at hz1_1; have hz1_2 := F1.out.z.1.frozens; have hy1_1 := F1.out.b.cells; simp only [Tok.cells, Tok.zero, Cl.zero] at hy1_1; have hy1_2 := F1.out.b.frozens; simp only [rtok, rend, Tok.v, Tok.zero, Cl.zero])
    have F2 := F1.out.put Tok.zero.list
    simp only [setN, Tok.list, Tok.zero, Cl.zero, Nat.reduceAdd] at F2
    go_meet
    exact ⟨rfl, F2⟩
  case rest =>
    obtain ⟨rfl, hF⟩ := hcut
    have F3 := Lib.hid hF
    clear hF
    have hz3_1 := F3.out.z.1.cells; simp only [Tok.cells, Tok.zero, Cl.zero] at hz3_1; have hz3_2 := F3.out.z.1.frozens; have hy3_1 := F3.out.b.cells; simp only [Tok.cells, Tok.zero, Cl.zero] at hy3_1; have hy3_2 := F3.out.b.frozens
    go_wp2_with fail
    have FE := F3.out.fin Tok.zero
    simp only [setN, Tok.list, Tok.zero, Cl.zero, Nat.reduceAdd] at FE
    refine HQ.out _ _ ?_
    refine tok_two (t := Tok.zero) rfl FE.1 rfl rfl (RTok.mk_ ?_ ?_ FE.2)
    all_goals (unfold repM; rw [HB.out]; rfl)

theorem rrep_any (w : World) (A : Option Addr) (c : Nat) (p : List UInt8) (k : Nat) (hr : RdB w w.heap.size A p) (hs : p.length ≤ 1024) (x : Int) (hx : ∃ h : k < p.length, (p[k].toNat : Int) = x) (hc : x = 42 ∨ x = 43 ∨ x = 63 ∨ x = 123) :
    Calls Try.prog 68 #[.slice A p.length c, .int .i64 k] w fun e w' => RTok w w' (repM p k x) e := by
  rcases hc with hc | hc | hc | hc
  · exact rrep_42 w A c p k hr hs x hx hc
  · exact rrep_43 w A c p k hr hs x hx hc
  · exact rrep_63 w A c p k hr hs x hx hc
  · rcases hC : cntM p (k + 1) with _ | ⟨t2, k2⟩
    · exact rrep_123n w A c p k hr hs x hx hc hC
    · obtain ⟨ln, mn, rfl⟩ := cntM_form' _ _ _ _ hC
      refine rrep_123 w A c p k hr hs x hx hc ln mn k2 hC ?_
      have h := hC
      rw [cntM_ref p (k + 1) (by have := hx.1; omega)] at h
      split at h
      · cases h
      · split at h
        · cases h
        · injection h with h; injection h with _ h; omega
end Go.Proofs.Ytkfjnllbjlndlaa
