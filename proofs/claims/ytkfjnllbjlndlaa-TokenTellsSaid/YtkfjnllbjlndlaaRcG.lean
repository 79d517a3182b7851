/- The reference's one. -/
import Derived.Test.YtkfjnllbjlndlaaRcF
import Derived.Test.YtkfjnllbjlndlaaOnA
import Derived.Deep.CutBlock
namespace Go.Proofs.Ytkfjnllbjlndlaa
open Go.RowKit

def ROne (w w' : World) (k : Nat) (r : Rd Tok) (e : Ending) : Prop :=
  (match r with
  | .ok t k' => ∃ t0 : Tok, e = .returned (.tuple #[t0.v, .int .i64 k', .int .i64 0]) ∧ { t0 with at_ := (k : Int) } = t
  | .bad a er => ∃ t0 : Tok, e = .returned (.tuple #[t0.v, .int .i64 a, .int .i64 er]) ∧ er ≠ 0) ∧ Below w.heap.size w w'

theorem lazyM_rep (p : List UInt8) (k : Nat) (t : Tok) (k1 : Nat) (t2 : Tok) (k2 : Nat) (h : (if byteAt p k1 = 63 then some ({ t with lazy := true }, k1 + 1) else some (t, k1)) = some (t2, k2)) : lazyM p k t k1 = .ok { t2 with at_ := (k : Int) } k2 := by
  unfold lazyM
  split at h
  · rename_i hc; injection h with h; injection h with h1 h2; subst h1 h2; rw [if_pos hc]
  · rename_i hc; injection h with h; injection h with h1 h2; subst h1 h2; rw [if_neg hc]
theorem rep_yes (p : List UInt8) (k : Nat) (x : Int) (t2 : Tok) (k2 : Nat) (hx : byteAt p k = x) (h : repM p k x = some (t2, k2)) (hc : x = 42 ∨ x = 43 ∨ x = 63 ∨ x = 123) : oneM p k = .ok { t2 with at_ := (k : Int) } k2 := by
  rw [oneM_at p k x hx]
  rcases hc with rfl | rfl | rfl | rfl
  · exact lazyM_rep p k _ _ t2 k2 h
  · exact lazyM_rep p k _ _ t2 k2 h
  · exact lazyM_rep p k _ _ t2 k2 h
  · unfold repM at h
    rw [show repB p k 123 = cntM p (k + 1) from rfl] at h
    rcases hb : cntM p (k + 1) with _ | ⟨t, j⟩
    · rw [hb] at h; cases h
    · rw [hb] at h; exact lazyM_rep p k t j t2 k2 h
theorem rep_no (p : List UInt8) (k : Nat) (hx : byteAt p k = 123) (h : repM p k 123 = none) : oneM p k = .bad k 43 := by
  rw [oneM_at p k 123 hx]
  unfold repM at h
  rw [show repB p k 123 = cntM p (k + 1) from rfl] at h
  rcases hb : cntM p (k + 1) with _ | ⟨t, j⟩
  · rfl
  · rw [hb] at h; simp only at h; split at h <;> cases h
theorem rep_some (p : List UInt8) (k : Nat) (x : Int) (hc : x = 42 ∨ x = 43 ∨ x = 63) : repM p k x ≠ none := by
  intro h
  unfold repM at h
  rcases hc with rfl | rfl | rfl
  all_goals
    simp only [repB] at h
    simp at h
    split at h <;> cases h
theorem repB_pos (p : List UInt8) (k : Nat) (x : Int) (t : Tok) (j : Nat) (hk : k < p.length) (h : repB p k x = some (t, j)) : 0 < j := by
  unfold repB at h
  split at h
  · injection h with h; injection h with _ h; omega
  · split at h
    · injection h with h; injection h with _ h; omega
    · split at h
      · injection h with h; injection h with _ h; omega
      · rw [cntM_ref p (k + 1) (by omega)] at h
        split at h
        · cases h
        · split at h
          · cases h
          · injection h with h; injection h with _ h; omega

set_option maxRecDepth 100000 in
set_option maxHeartbeats 800000 in
theorem rone_46 (w : World) (A : Option Addr) (c : Nat) (p : List UInt8) (k : Nat) (hr : RdB w w.heap.size A p) (hs : p.length ≤ 1024) (x : Int) (hx : ∃ h : k < p.length, (p[k].toNat : Int) = x) (hc : x = 46) :
    Calls Try.prog 47 #[.slice A p.length c, .int .i64 k] w fun e w' => ROne w w' k (oneM p k) e := by
  have hk : k < p.length := hx.1
  obtain ⟨ad, rfl⟩ : ∃ ad, A = some ad := by obtain ⟨ad, e, _⟩ := hr.at_ hk; exact ⟨ad, e⟩
  obtain ⟨hx0, hx1⟩ : 0 ≤ x ∧ x ≤ 255 := by obtain ⟨h1, h2⟩ := hx; have := (p[k]).toNat_lt; omega
  have hX := Lib.hid (show byteAt p k = x by obtain ⟨h1, h2⟩ := hx; rw [byteAt_lt p k h1, h2])
  obtain ⟨k1, hk1⟩ : ∃ k1, k1 = k + 1 := ⟨_, rfl⟩
  have hv1 : (k : Int) + 1 = (k1 : Int) := by omega
  have hr0 := fun o => (Reads.more (Reads.alloc hr (Nat.le_refl _) o) (by rw [World.size_alloc]; omega) : RdB (w.alloc o) (w.alloc o).heap.size (some ad) p)
  have hb0 := fun o => RdB.cell_ (hr0 o) hx
  have K0 := Lib.hid (KT.new w Tok.zero)
  have HR := Lib.hid hr0
  have HK := Lib.hid hk1
  have HXX := Lib.hid hx
  clear hr hk1 hr0 hx
  subst hc
  go_enter Try.func47, Try.ntmps47
  refine shut_post fun E0 HQ => ?_
  go_wp2
  have FE := KT.new w ({ Tok.zero with kind := 3 })
  simp only [Tok.cells, Tok.zero, Cl.zero] at FE
  refine HQ.out _ _ ?_
  refine tok_three (t := { Tok.zero with kind := 3 }) rfl FE.1 rfl rfl rfl ⟨?_, FE.2⟩
  rw [show oneM p k = .ok { Tok.zero with kind := 3, at_ := k } (k + 1) from by rw [oneM_at p k 46 hX.out]; rfl]
  exact ⟨_, by rw [HK.out], rfl⟩

set_option maxRecDepth 100000 in
set_option maxHeartbeats 800000 in
theorem rone_41 (w : World) (A : Option Addr) (c : Nat) (p : List UInt8) (k : Nat) (hr : RdB w w.heap.size A p) (hs : p.length ≤ 1024) (x : Int) (hx : ∃ h : k < p.length, (p[k].toNat : Int) = x) (hc : x = 41) :
    Calls Try.prog 47 #[.slice A p.length c, .int .i64 k] w fun e w' => ROne w w' k (oneM p k) e := by
  have hk : k < p.length := hx.1
  obtain ⟨ad, rfl⟩ : ∃ ad, A = some ad := by obtain ⟨ad, e, _⟩ := hr.at_ hk; exact ⟨ad, e⟩
  obtain ⟨hx0, hx1⟩ : 0 ≤ x ∧ x ≤ 255 := by obtain ⟨h1, h2⟩ := hx; have := (p[k]).toNat_lt; omega
  have hX := Lib.hid (show byteAt p k = x by obtain ⟨h1, h2⟩ := hx; rw [byteAt_lt p k h1, h2])
  obtain ⟨k1, hk1⟩ : ∃ k1, k1 = k + 1 := ⟨_, rfl⟩
  have hv1 : (k : Int) + 1 = (k1 : Int) := by omega
  have hr0 := fun o => (Reads.more (Reads.alloc hr (Nat.le_refl _) o) (by rw [World.size_alloc]; omega) : RdB (w.alloc o) (w.alloc o).heap.size (some ad) p)
  have hb0 := fun o => RdB.cell_ (hr0 o) hx
  have K0 := Lib.hid (KT.new w Tok.zero)
  have HR := Lib.hid hr0
  have HK := Lib.hid hk1
  have HXX := Lib.hid hx
  clear hr hk1 hr0 hx
  subst hc
  go_enter Try.func47, Try.ntmps47
  refine shut_post fun E0 HQ => ?_
  go_wp2
  have FE := KT.new w ({ Tok.zero with kind := 5 })
  simp only [Tok.cells, Tok.zero, Cl.zero] at FE
  refine HQ.out _ _ ?_
  refine tok_three (t := { Tok.zero with kind := 5 }) rfl FE.1 rfl rfl rfl ⟨?_, FE.2⟩
  rw [show oneM p k = .ok { Tok.zero with kind := 5, at_ := k } (k + 1) from by rw [oneM_at p k 41 hX.out]; rfl]
  exact ⟨_, by rw [HK.out], rfl⟩

set_option maxRecDepth 100000 in
set_option maxHeartbeats 800000 in
theorem rone_124 (w : World) (A : Option Addr) (c : Nat) (p : List UInt8) (k : Nat) (hr : RdB w w.heap.size A p) (hs : p.length ≤ 1024) (x : Int) (hx : ∃ h : k < p.length, (p[k].toNat : Int) = x) (hc : x = 124) :
    Calls Try.prog 47 #[.slice A p.length c, .int .i64 k] w fun e w' => ROne w w' k (oneM p k) e := by
  have hk : k < p.length := hx.1
  obtain ⟨ad, rfl⟩ : ∃ ad, A = some ad := by obtain ⟨ad, e, _⟩ := hr.at_ hk; exact ⟨ad, e⟩
  obtain ⟨hx0, hx1⟩ : 0 ≤ x ∧ x ≤ 255 := by obtain ⟨h1, h2⟩ := hx; have := (p[k]).toNat_lt; omega
  have hX := Lib.hid (show byteAt p k = x by obtain ⟨h1, h2⟩ := hx; rw [byteAt_lt p k h1, h2])
  obtain ⟨k1, hk1⟩ : ∃ k1, k1 = k + 1 := ⟨_, rfl⟩
  have hv1 : (k : Int) + 1 = (k1 : Int) := by omega
  have hr0 := fun o => (Reads.more (Reads.alloc hr (Nat.le_refl _) o) (by rw [World.size_alloc]; omega) : RdB (w.alloc o) (w.alloc o).heap.size (some ad) p)
  have hb0 := fun o => RdB.cell_ (hr0 o) hx
  have K0 := Lib.hid (KT.new w Tok.zero)
  have HR := Lib.hid hr0
  have HK := Lib.hid hk1
  have HXX := Lib.hid hx
  clear hr hk1 hr0 hx
  subst hc
  go_enter Try.func47, Try.ntmps47
  refine shut_post fun E0 HQ => ?_
  go_wp2
  have FE := KT.new w ({ Tok.zero with kind := 6 })
  simp only [Tok.cells, Tok.zero, Cl.zero] at FE
  refine HQ.out _ _ ?_
  refine tok_three (t := { Tok.zero with kind := 6 }) rfl FE.1 rfl rfl rfl ⟨?_, FE.2⟩
  rw [show oneM p k = .ok { Tok.zero with kind := 6, at_ := k } (k + 1) from by rw [oneM_at p k 124 hX.out]; rfl]
  exact ⟨_, by rw [HK.out], rfl⟩

set_option maxRecDepth 100000 in
set_option maxHeartbeats 800000 in
theorem rone_94 (w : World) (A : Option Addr) (c : Nat) (p : List UInt8) (k : Nat) (hr : RdB w w.heap.size A p) (hs : p.length ≤ 1024) (x : Int) (hx : ∃ h : k < p.length, (p[k].toNat : Int) = x) (hc : x = 94) :
    Calls Try.prog 47 #[.slice A p.length c, .int .i64 k] w fun e w' => ROne w w' k (oneM p k) e := by
  have hk : k < p.length := hx.1
  obtain ⟨ad, rfl⟩ : ∃ ad, A = some ad := by obtain ⟨ad, e, _⟩ := hr.at_ hk; exact ⟨ad, e⟩
  obtain ⟨hx0, hx1⟩ : 0 ≤ x ∧ x ≤ 255 := by obtain ⟨h1, h2⟩ := hx; have := (p[k]).toNat_lt; omega
  have hX := Lib.hid (show byteAt p k = x by obtain ⟨h1, h2⟩ := hx; rw [byteAt_lt p k h1, h2])
  obtain ⟨k1, hk1⟩ : ∃ k1, k1 = k + 1 := ⟨_, rfl⟩
  have hv1 : (k : Int) + 1 = (k1 : Int) := by omega
  have hr0 := fun o => (Reads.more (Reads.alloc hr (Nat.le_refl _) o) (by rw [World.size_alloc]; omega) : RdB (w.alloc o) (w.alloc o).heap.size (some ad) p)
  have hb0 := fun o => RdB.cell_ (hr0 o) hx
  have K0 := Lib.hid (KT.new w Tok.zero)
  have HR := Lib.hid hr0
  have HK := Lib.hid hk1
  have HXX := Lib.hid hx
  clear hr hk1 hr0 hx
  subst hc
  go_enter Try.func47, Try.ntmps47
  refine shut_post fun E0 HQ => ?_
  go_wp2
  have FE := KT.new w ({ Tok.zero with kind := 8 })
  simp only [Tok.cells, Tok.zero, Cl.zero] at FE
  refine HQ.out _ _ ?_
  refine tok_three (t := { Tok.zero with kind := 8 }) rfl FE.1 rfl rfl rfl ⟨?_, FE.2⟩
  rw [show oneM p k = .ok { Tok.zero with kind := 8, at_ := k } (k + 1) from by rw [oneM_at p k 94 hX.out]; rfl]
  exact ⟨_, by rw [HK.out], rfl⟩

set_option maxRecDepth 100000 in
set_option maxHeartbeats 800000 in
theorem rone_36 (w : World) (A : Option Addr) (c : Nat) (p : List UInt8) (k : Nat) (hr : RdB w w.heap.size A p) (hs : p.length ≤ 1024) (x : Int) (hx : ∃ h : k < p.length, (p[k].toNat : Int) = x) (hc : x = 36) :
    Calls Try.prog 47 #[.slice A p.length c, .int .i64 k] w fun e w' => ROne w w' k (oneM p k) e := by
  have hk : k < p.length := hx.1
  obtain ⟨ad, rfl⟩ : ∃ ad, A = some ad := by obtain ⟨ad, e, _⟩ := hr.at_ hk; exact ⟨ad, e⟩
  obtain ⟨hx0, hx1⟩ : 0 ≤ x ∧ x ≤ 255 := by obtain ⟨h1, h2⟩ := hx; have := (p[k]).toNat_lt; omega
  have hX := Lib.hid (show byteAt p k = x by obtain ⟨h1, h2⟩ := hx; rw [byteAt_lt p k h1, h2])
  obtain ⟨k1, hk1⟩ : ∃ k1, k1 = k + 1 := ⟨_, rfl⟩
  have hv1 : (k : Int) + 1 = (k1 : Int) := by omega
  have hr0 := fun o => (Reads.more (Reads.alloc hr (Nat.le_refl _) o) (by rw [World.size_alloc]; omega) : RdB (w.alloc o) (w.alloc o).heap.size (some ad) p)
  have hb0 := fun o => RdB.cell_ (hr0 o) hx
  have K0 := Lib.hid (KT.new w Tok.zero)
  have HR := Lib.hid hr0
  have HK := Lib.hid hk1
  have HXX := Lib.hid hx
  clear hr hk1 hr0 hx
  subst hc
  go_enter Try.func47, Try.ntmps47
  refine shut_post fun E0 HQ => ?_
  go_wp2
  have FE := KT.new w ({ Tok.zero with kind := 9 })
  simp only [Tok.cells, Tok.zero, Cl.zero] at FE
  refine HQ.out _ _ ?_
  refine tok_three (t := { Tok.zero with kind := 9 }) rfl FE.1 rfl rfl rfl ⟨?_, FE.2⟩
  rw [show oneM p k = .ok { Tok.zero with kind := 9, at_ := k } (k + 1) from by rw [oneM_at p k 36 hX.out]; rfl]
  exact ⟨_, by rw [HK.out], rfl⟩

set_option maxRecDepth 100000 in
set_option maxHeartbeats 800000 in
theorem rone_byte (w : World) (A : Option Addr) (c : Nat) (p : List UInt8) (k : Nat) (hr : RdB w w.heap.size A p) (hs : p.length ≤ 1024) (x : Int) (hx : ∃ h : k < p.length, (p[k].toNat : Int) = x) (h92 : x ≠ 92) (h91 : x ≠ 91) (h46 : x ≠ 46) (h40 : x ≠ 40) (h41 : x ≠ 41) (h124 : x ≠ 124) (h94 : x ≠ 94) (h36 : x ≠ 36) (h43 : x ≠ 43) (h42 : x ≠ 42) (h63 : x ≠ 63) (h123 : x ≠ 123) :
    Calls Try.prog 47 #[.slice A p.length c, .int .i64 k] w fun e w' => ROne w w' k (oneM p k) e := by
  have hk : k < p.length := hx.1
  obtain ⟨ad, rfl⟩ : ∃ ad, A = some ad := by obtain ⟨ad, e, _⟩ := hr.at_ hk; exact ⟨ad, e⟩
  obtain ⟨hx0, hx1⟩ : 0 ≤ x ∧ x ≤ 255 := by obtain ⟨h1, h2⟩ := hx; have := (p[k]).toNat_lt; omega
  have hX := Lib.hid (show byteAt p k = x by obtain ⟨h1, h2⟩ := hx; rw [byteAt_lt p k h1, h2])
  obtain ⟨k1, hk1⟩ : ∃ k1, k1 = k + 1 := ⟨_, rfl⟩
  have hv1 : (k : Int) + 1 = (k1 : Int) := by omega
  have hr0 := fun o => (Reads.more (Reads.alloc hr (Nat.le_refl _) o) (by rw [World.size_alloc]; omega) : RdB (w.alloc o) (w.alloc o).heap.size (some ad) p)
  have hb0 := fun o => RdB.cell_ (hr0 o) hx
  have K0 := Lib.hid (KT.new w Tok.zero)
  have HR := Lib.hid hr0
  have HK := Lib.hid hk1
  have HXX := Lib.hid hx
  clear hr hk1 hr0 hx
  have q92 : (x == 92) = false := beq_eq_false_iff_ne.2 h92
  have q91 : (x == 91) = false := beq_eq_false_iff_ne.2 h91
  have q46 : (x == 46) = false := beq_eq_false_iff_ne.2 h46
  have q40 : (x == 40) = false := beq_eq_false_iff_ne.2 h40
  have q41 : (x == 41) = false := beq_eq_false_iff_ne.2 h41
  have q124 : (x == 124) = false := beq_eq_false_iff_ne.2 h124
  have q94 : (x == 94) = false := beq_eq_false_iff_ne.2 h94
  have q36 : (x == 36) = false := beq_eq_false_iff_ne.2 h36
  have q43 : (x == 43) = false := beq_eq_false_iff_ne.2 h43
  have q42 : (x == 42) = false := beq_eq_false_iff_ne.2 h42
  have q63 : (x == 63) = false := beq_eq_false_iff_ne.2 h63
  have q123 : (x == 123) = false := beq_eq_false_iff_ne.2 h123
  have HO := Lib.hid (show oneM p k = .ok { Tok.ofByte x with at_ := k } (k + 1) from by rw [oneM_at p k x hX.out]; simp only [h92, h91, h46, h40, h41, h124, h94, h36, h43, h42, h63, h123, if_false])
  clear h92 h91 h46 h40 h41 h124 h94 h36 h43 h42 h63 h123
  go_enter Try.func47, Try.ntmps47
  refine shut_post fun E0 HQ => ?_
  go_wp2_with (go_at_call 69; refine (abyte_any x _).mono ?_; rintro e w1 ⟨rfl, hb⟩; have K1 := Lib.hid (K0.out.step hb); clear hb; have hz1_1 := K1.out.1.cells; simp only [Tok.cells, Tok.zero, Cl.zero] at hz1_1; have hz1_2 := K1.out.1.frozens; simp only [Tok.v, Tok.ofByte, Tok.zero])
  have FE := KT.fin K1.out (Tok.ofByte x)
  simp only [setN, Tok.list, Tok.ofByte, Tok.zero, Cl.zero, Nat.reduceAdd] at FE
  refine HQ.out _ _ ?_
  refine tok_three (t := Tok.ofByte x) rfl FE.1 rfl rfl rfl ⟨?_, FE.2⟩
  rw [HO.out]
  exact ⟨_, by rw [HK.out], rfl⟩

set_option maxRecDepth 100000 in
set_option maxHeartbeats 800000 in
theorem rone_escNo (w : World) (A : Option Addr) (c : Nat) (p : List UInt8) (k : Nat) (hr : RdB w w.heap.size A p) (hs : p.length ≤ 1024) (x : Int) (hx : ∃ h : k < p.length, (p[k].toNat : Int) = x) (hc : x = 92) (hE : escM p (k + 1) = none) :
    Calls Try.prog 47 #[.slice A p.length c, .int .i64 k] w fun e w' => ROne w w' k (oneM p k) e := by
  have hk : k < p.length := hx.1
  obtain ⟨ad, rfl⟩ : ∃ ad, A = some ad := by obtain ⟨ad, e, _⟩ := hr.at_ hk; exact ⟨ad, e⟩
  obtain ⟨hx0, hx1⟩ : 0 ≤ x ∧ x ≤ 255 := by obtain ⟨h1, h2⟩ := hx; have := (p[k]).toNat_lt; omega
  have hX := Lib.hid (show byteAt p k = x by obtain ⟨h1, h2⟩ := hx; rw [byteAt_lt p k h1, h2])
  obtain ⟨k1, hk1⟩ : ∃ k1, k1 = k + 1 := ⟨_, rfl⟩
  have hv1 : (k : Int) + 1 = (k1 : Int) := by omega
  have hr0 := fun o => (Reads.more (Reads.alloc hr (Nat.le_refl _) o) (by rw [World.size_alloc]; omega) : RdB (w.alloc o) (w.alloc o).heap.size (some ad) p)
  have hb0 := fun o => RdB.cell_ (hr0 o) hx
  have K0 := Lib.hid (KT.new w Tok.zero)
  have HR := Lib.hid hr0
  have HK := Lib.hid hk1
  have HXX := Lib.hid hx
  clear hr hk1 hr0 hx
  subst hc
  have HE := Lib.hid hE
  rw [← HK.out] at HE
  clear hE
  go_enter Try.func47, Try.ntmps47
  refine shut_post fun E0 HQ => ?_
  go_wp2_with (go_at_call 66; refine (resc_any _ (some ad) c p k (HR.out _) hs (by omega)).mono ?_; rintro e w1 ⟨rfl, hb⟩; have K1 := Lib.hid (K0.out.step hb); clear hb; rw [← HK.out, HE.out]; have hz1_1 := fun o => (Kp.alloc K1.out o).1.cells; simp only [z_cells] at hz1_1; have hz1_2 := fun o => (Kp.alloc K1.out o).1.frozens; simp only [rtok, rend, Tok.v, Tok.zero, Cl.zero])
  have FE := fun o => KT.fin (Kp.alloc K1.out o) (Tok.zero)
  simp only [setN, Tok.list, Tok.zero, Cl.zero, Nat.reduceAdd] at FE
  refine HQ.out _ _ ?_
  refine tok_three (t := Tok.zero) rfl (FE _).1 rfl rfl rfl ⟨?_, (FE _).2⟩
  rw [show oneM p k = .bad k 40 from by rw [oneM_at p k 92 hX.out]; have h := HE.out; rw [HK.out] at h; simp [h]]
  exact ⟨_, rfl, by decide⟩

set_option maxRecDepth 100000 in
set_option maxHeartbeats 800000 in
theorem rone_escYes (w : World) (A : Option Addr) (c : Nat) (p : List UInt8) (k : Nat) (hr : RdB w w.heap.size A p) (hs : p.length ≤ 1024) (x : Int) (hx : ∃ h : k < p.length, (p[k].toNat : Int) = x) (hc : x = 92) (t2 : Tok) (k2 : Nat) (hE : escM p (k + 1) = some (t2, k2)) :
    Calls Try.prog 47 #[.slice A p.length c, .int .i64 k] w fun e w' => ROne w w' k (oneM p k) e := by
  have hk : k < p.length := hx.1
  obtain ⟨ad, rfl⟩ : ∃ ad, A = some ad := by obtain ⟨ad, e, _⟩ := hr.at_ hk; exact ⟨ad, e⟩
  obtain ⟨hx0, hx1⟩ : 0 ≤ x ∧ x ≤ 255 := by obtain ⟨h1, h2⟩ := hx; have := (p[k]).toNat_lt; omega
  have hX := Lib.hid (show byteAt p k = x by obtain ⟨h1, h2⟩ := hx; rw [byteAt_lt p k h1, h2])
  obtain ⟨k1, hk1⟩ : ∃ k1, k1 = k + 1 := ⟨_, rfl⟩
  have hv1 : (k : Int) + 1 = (k1 : Int) := by omega
  have hr0 := fun o => (Reads.more (Reads.alloc hr (Nat.le_refl _) o) (by rw [World.size_alloc]; omega) : RdB (w.alloc o) (w.alloc o).heap.size (some ad) p)
  have hb0 := fun o => RdB.cell_ (hr0 o) hx
  have K0 := Lib.hid (KT.new w Tok.zero)
  have HR := Lib.hid hr0
  have HK := Lib.hid hk1
  have HXX := Lib.hid hx
  clear hr hk1 hr0 hx
  subst hc
  have HE := Lib.hid hE
  have hk20 : ¬ (k2 : Int) = 0 := by have := (escM_facts p (k + 1) t2 k2 hE).1; omega
  have hk2b : ((k2 : Int) == 0) = false := beq_eq_false_iff_ne.2 hk20
  rw [← HK.out] at HE
  clear hE
  go_enter Try.func47, Try.ntmps47
  refine shut_post fun E0 HQ => ?_
  go_wp2_with (go_at_call 66; refine (resc_any _ (some ad) c p k (HR.out _) hs (by omega)).mono ?_; rintro e w1 ⟨rfl, hb⟩; have K1 := Lib.hid (K0.out.step hb); clear hb; rw [← HK.out, HE.out]; have hz1_1 := fun o => (Kp.alloc K1.out o).1.cells; simp only [z_cells] at hz1_1; have hz1_2 := fun o => (Kp.alloc K1.out o).1.frozens; simp only [rtok, rend, Tok.v])
  have FE := fun o => KT.fin (Kp.alloc K1.out o) (t2)
  simp only [setN, Tok.list, Nat.reduceAdd] at FE
  refine HQ.out _ _ ?_
  refine tok_three (t := t2) rfl (FE _).1 rfl rfl rfl ⟨?_, (FE _).2⟩
  rw [show oneM p k = .ok { t2 with at_ := k } k2 from by rw [oneM_at p k 92 hX.out]; have h := HE.out; rw [HK.out] at h; simp [h]]
  exact ⟨_, rfl, rfl⟩

set_option maxRecDepth 100000 in
set_option maxHeartbeats 800000 in
theorem rone_braNo (w : World) (A : Option Addr) (c : Nat) (p : List UInt8) (k : Nat) (hr : RdB w w.heap.size A p) (hs : p.length ≤ 1024) (x : Int) (hx : ∃ h : k < p.length, (p[k].toNat : Int) = x) (hc : x = 91) (n : Bool) (hn : n = decide (byteAt p (k + 1) = 94)) (a er : Int) (hS : setM p k n (p.length + 1) (if n then k + 2 else k + 1) true Cl.zero = .bad a er) :
    Calls Try.prog 47 #[.slice A p.length c, .int .i64 k] w fun e w' => ROne w w' k (oneM p k) e := by
  have hk : k < p.length := hx.1
  obtain ⟨ad, rfl⟩ : ∃ ad, A = some ad := by obtain ⟨ad, e, _⟩ := hr.at_ hk; exact ⟨ad, e⟩
  obtain ⟨hx0, hx1⟩ : 0 ≤ x ∧ x ≤ 255 := by obtain ⟨h1, h2⟩ := hx; have := (p[k]).toNat_lt; omega
  have hX := Lib.hid (show byteAt p k = x by obtain ⟨h1, h2⟩ := hx; rw [byteAt_lt p k h1, h2])
  obtain ⟨k1, hk1⟩ : ∃ k1, k1 = k + 1 := ⟨_, rfl⟩
  have hv1 : (k : Int) + 1 = (k1 : Int) := by omega
  have hr0 := fun o => (Reads.more (Reads.alloc hr (Nat.le_refl _) o) (by rw [World.size_alloc]; omega) : RdB (w.alloc o) (w.alloc o).heap.size (some ad) p)
  have hb0 := fun o => RdB.cell_ (hr0 o) hx
  have K0 := Lib.hid (KT.new w Tok.zero)
  have HR := Lib.hid hr0
  have HK := Lib.hid hk1
  have HXX := Lib.hid hx
  clear hr hk1 hr0 hx
  subst hc
  have HN := Lib.hid hn
  have HS := Lib.hid hS
  rw [← HK.out] at HN
  clear hn hS
  go_enter Try.func47, Try.ntmps47
  refine shut_post fun E0 HQ => ?_
  go_wp2_with (go_at_call 67; refine (rbra_any _ (some ad) c p k k1 HK.out (HR.out _) hs hk n HN.out).mono ?_; rintro e w1 ⟨hres, hb⟩; rw [show (if n then k1 + 1 else k1) = (if n then k + 2 else k + 1) from by have := HK.out; split <;> omega, HS.out] at hres; obtain ⟨rfl, her⟩ := hres; have HER := Lib.hid her; clear her; have K1 := Lib.hid (K0.out.step hb); clear hb; have hz1_1 := K1.out.1.cells; simp only [z_cells] at hz1_1; have hz1_2 := K1.out.1.frozens; simp only [Tok.v, Tok.zero, Cl.zero])
  have FE := KT.fin K1.out (Tok.zero)
  simp only [setN, Tok.list, Tok.zero, Cl.zero, Nat.reduceAdd] at FE
  refine HQ.out _ _ ?_
  refine tok_three (t := Tok.zero) rfl FE.1 rfl rfl rfl ⟨?_, FE.2⟩
  rw [show oneM p k = .bad a er from by rw [oneM_at p k 91 hX.out]; have h := HS.out; have h2 := HN.out; rw [HK.out] at h2; simp only [← h2, h]; rfl]
  exact ⟨_, rfl, HER.out⟩

set_option maxRecDepth 100000 in
set_option maxHeartbeats 800000 in
theorem rone_braYes (w : World) (A : Option Addr) (c : Nat) (p : List UInt8) (k : Nat) (hr : RdB w w.heap.size A p) (hs : p.length ≤ 1024) (x : Int) (hx : ∃ h : k < p.length, (p[k].toNat : Int) = x) (hc : x = 91) (n : Bool) (hn : n = decide (byteAt p (k + 1) = 94)) (cl : Cl) (k2 : Nat) (hS : setM p k n (p.length + 1) (if n then k + 2 else k + 1) true Cl.zero = .ok cl k2) :
    Calls Try.prog 47 #[.slice A p.length c, .int .i64 k] w fun e w' => ROne w w' k (oneM p k) e := by
  have hk : k < p.length := hx.1
  obtain ⟨ad, rfl⟩ : ∃ ad, A = some ad := by obtain ⟨ad, e, _⟩ := hr.at_ hk; exact ⟨ad, e⟩
  obtain ⟨hx0, hx1⟩ : 0 ≤ x ∧ x ≤ 255 := by obtain ⟨h1, h2⟩ := hx; have := (p[k]).toNat_lt; omega
  have hX := Lib.hid (show byteAt p k = x by obtain ⟨h1, h2⟩ := hx; rw [byteAt_lt p k h1, h2])
  obtain ⟨k1, hk1⟩ : ∃ k1, k1 = k + 1 := ⟨_, rfl⟩
  have hv1 : (k : Int) + 1 = (k1 : Int) := by omega
  have hr0 := fun o => (Reads.more (Reads.alloc hr (Nat.le_refl _) o) (by rw [World.size_alloc]; omega) : RdB (w.alloc o) (w.alloc o).heap.size (some ad) p)
  have hb0 := fun o => RdB.cell_ (hr0 o) hx
  have K0 := Lib.hid (KT.new w Tok.zero)
  have HR := Lib.hid hr0
  have HK := Lib.hid hk1
  have HXX := Lib.hid hx
  clear hr hk1 hr0 hx
  subst hc
  have HN := Lib.hid hn
  have HS := Lib.hid hS
  rw [← HK.out] at HN
  clear hn hS
  go_enter Try.func47, Try.ntmps47
  refine shut_post fun E0 HQ => ?_
  go_wp2_with (go_at_call 67; refine (rbra_any _ (some ad) c p k k1 HK.out (HR.out _) hs hk n HN.out).mono ?_; rintro e w1 ⟨hres, hb⟩; rw [show (if n then k1 + 1 else k1) = (if n then k + 2 else k + 1) from by have := HK.out; split <;> omega, HS.out] at hres; obtain rfl := hres; have K1 := Lib.hid (K0.out.step hb); clear hb; have hz1_1 := K1.out.1.cells; simp only [z_cells] at hz1_1; have hz1_2 := K1.out.1.frozens; simp only [Tok.v, Tok.zero, Cl.zero])
  have FE := KT.fin K1.out ({ Tok.zero with kind := 2, cls := cl, not_ := n })
  simp only [setN, Tok.list, Tok.zero, Cl.zero, Nat.reduceAdd] at FE
  refine HQ.out _ _ ?_
  refine tok_three (t := { Tok.zero with kind := 2, cls := cl, not_ := n }) rfl FE.1 rfl rfl rfl ⟨?_, FE.2⟩
  rw [show oneM p k = .ok { Tok.zero with kind := 2, cls := cl, not_ := n, at_ := k } k2 from by rw [oneM_at p k 91 hX.out]; have h := HS.out; have h2 := HN.out; rw [HK.out] at h2; simp only [← h2, h]; rfl]
  exact ⟨_, rfl, rfl⟩

set_option maxRecDepth 100000 in
set_option maxHeartbeats 800000 in
theorem rone_rep123No (w : World) (A : Option Addr) (c : Nat) (p : List UInt8) (k : Nat) (hr : RdB w w.heap.size A p) (hs : p.length ≤ 1024) (x : Int) (hx : ∃ h : k < p.length, (p[k].toNat : Int) = x) (hc : x = 123) (hE : repM p k 123 = none) :
    Calls Try.prog 47 #[.slice A p.length c, .int .i64 k] w fun e w' => ROne w w' k (oneM p k) e := by
  have hk : k < p.length := hx.1
  obtain ⟨ad, rfl⟩ : ∃ ad, A = some ad := by obtain ⟨ad, e, _⟩ := hr.at_ hk; exact ⟨ad, e⟩
  obtain ⟨hx0, hx1⟩ : 0 ≤ x ∧ x ≤ 255 := by obtain ⟨h1, h2⟩ := hx; have := (p[k]).toNat_lt; omega
  have hX := Lib.hid (show byteAt p k = x by obtain ⟨h1, h2⟩ := hx; rw [byteAt_lt p k h1, h2])
  obtain ⟨k1, hk1⟩ : ∃ k1, k1 = k + 1 := ⟨_, rfl⟩
  have hv1 : (k : Int) + 1 = (k1 : Int) := by omega
  have hr0 := fun o => (Reads.more (Reads.alloc hr (Nat.le_refl _) o) (by rw [World.size_alloc]; omega) : RdB (w.alloc o) (w.alloc o).heap.size (some ad) p)
  have hb0 := fun o => RdB.cell_ (hr0 o) hx
  have K0 := Lib.hid (KT.new w Tok.zero)
  have HR := Lib.hid hr0
  have HK := Lib.hid hk1
  have HXX := Lib.hid hx
  clear hr hk1 hr0 hx
  subst hc
  have HE := Lib.hid hE
  clear hE
  go_enter Try.func47, Try.ntmps47
  refine shut_post fun E0 HQ => ?_
  go_wp2_with (go_at_call 68; refine (rrep_any _ (some ad) c p k (HR.out _) hs 123 HXX.out (by decide)).mono ?_; rintro e w1 ⟨rfl, hb⟩; have K1 := Lib.hid (K0.out.step hb); clear hb; rw [HE.out]; have hz1_1 := fun o => (Kp.alloc K1.out o).1.cells; simp only [z_cells] at hz1_1; have hz1_2 := fun o => (Kp.alloc K1.out o).1.frozens; simp only [rtok, rend, Tok.v, Tok.zero, Cl.zero])
  have FE := fun o => KT.fin (Kp.alloc K1.out o) (Tok.zero)
  simp only [setN, Tok.list, Tok.zero, Cl.zero, Nat.reduceAdd] at FE
  refine HQ.out _ _ ?_
  refine tok_three (t := Tok.zero) rfl (FE _).1 rfl rfl rfl ⟨?_, (FE _).2⟩
  rw [rep_no p k hX.out HE.out]
  exact ⟨_, rfl, by decide⟩

set_option maxRecDepth 100000 in
set_option maxHeartbeats 800000 in
theorem rone_rep42Yes (w : World) (A : Option Addr) (c : Nat) (p : List UInt8) (k : Nat) (hr : RdB w w.heap.size A p) (hs : p.length ≤ 1024) (x : Int) (hx : ∃ h : k < p.length, (p[k].toNat : Int) = x) (hc : x = 42) (t2 : Tok) (k2 : Nat) (hE : repM p k 42 = some (t2, k2)) (hk2 : 0 < k2) :
    Calls Try.prog 47 #[.slice A p.length c, .int .i64 k] w fun e w' => ROne w w' k (oneM p k) e := by
  have hk : k < p.length := hx.1
  obtain ⟨ad, rfl⟩ : ∃ ad, A = some ad := by obtain ⟨ad, e, _⟩ := hr.at_ hk; exact ⟨ad, e⟩
  obtain ⟨hx0, hx1⟩ : 0 ≤ x ∧ x ≤ 255 := by obtain ⟨h1, h2⟩ := hx; have := (p[k]).toNat_lt; omega
  have hX := Lib.hid (show byteAt p k = x by obtain ⟨h1, h2⟩ := hx; rw [byteAt_lt p k h1, h2])
  obtain ⟨k1, hk1⟩ : ∃ k1, k1 = k + 1 := ⟨_, rfl⟩
  have hv1 : (k : Int) + 1 = (k1 : Int) := by omega
  have hr0 := fun o => (Reads.more (Reads.alloc hr (Nat.le_refl _) o) (by rw [World.size_alloc]; omega) : RdB (w.alloc o) (w.alloc o).heap.size (some ad) p)
  have hb0 := fun o => RdB.cell_ (hr0 o) hx
  have K0 := Lib.hid (KT.new w Tok.zero)
  have HR := Lib.hid hr0
  have HK := Lib.hid hk1
  have HXX := Lib.hid hx
  clear hr hk1 hr0 hx
  subst hc
  have HE := Lib.hid hE
  have hk20 : ¬ (k2 : Int) = 0 := by omega
  have hk2b : ((k2 : Int) == 0) = false := beq_eq_false_iff_ne.2 hk20
  clear hE
  go_enter Try.func47, Try.ntmps47
  refine shut_post fun E0 HQ => ?_
  go_wp2_with (go_at_call 68; refine (rrep_any _ (some ad) c p k (HR.out _) hs 42 HXX.out (by decide)).mono ?_; rintro e w1 ⟨rfl, hb⟩; have K1 := Lib.hid (K0.out.step hb); clear hb; rw [HE.out]; have hz1_1 := fun o => (Kp.alloc K1.out o).1.cells; simp only [z_cells] at hz1_1; have hz1_2 := fun o => (Kp.alloc K1.out o).1.frozens; simp only [rtok, rend, Tok.v])
  have FE := fun o => KT.fin (Kp.alloc K1.out o) (t2)
  simp only [setN, Tok.list, Nat.reduceAdd] at FE
  refine HQ.out _ _ ?_
  refine tok_three (t := t2) rfl (FE _).1 rfl rfl rfl ⟨?_, (FE _).2⟩
  rw [rep_yes p k 42 t2 k2 hX.out HE.out (by decide)]
  exact ⟨_, rfl, rfl⟩

set_option maxRecDepth 100000 in
set_option maxHeartbeats 800000 in
theorem rone_rep43Yes (w : World) (A : Option Addr) (c : Nat) (p : List UInt8) (k : Nat) (hr : RdB w w.heap.size A p) (hs : p.length ≤ 1024) (x : Int) (hx : ∃ h : k < p.length, (p[k].toNat : Int) = x) (hc : x = 43) (t2 : Tok) (k2 : Nat) (hE : repM p k 43 = some (t2, k2)) (hk2 : 0 < k2) :
    Calls Try.prog 47 #[.slice A p.length c, .int .i64 k] w fun e w' => ROne w w' k (oneM p k) e := by
  have hk : k < p.length := hx.1
  obtain ⟨ad, rfl⟩ : ∃ ad, A = some ad := by obtain ⟨ad, e, _⟩ := hr.at_ hk; exact ⟨ad, e⟩
  obtain ⟨hx0, hx1⟩ : 0 ≤ x ∧ x ≤ 255 := by obtain ⟨h1, h2⟩ := hx; have := (p[k]).toNat_lt; omega
  have hX := Lib.hid (show byteAt p k = x by obtain ⟨h1, h2⟩ := hx; rw [byteAt_lt p k h1, h2])
  obtain ⟨k1, hk1⟩ : ∃ k1, k1 = k + 1 := ⟨_, rfl⟩
  have hv1 : (k : Int) + 1 = (k1 : Int) := by omega
  have hr0 := fun o => (Reads.more (Reads.alloc hr (Nat.le_refl _) o) (by rw [World.size_alloc]; omega) : RdB (w.alloc o) (w.alloc o).heap.size (some ad) p)
  have hb0 := fun o => RdB.cell_ (hr0 o) hx
  have K0 := Lib.hid (KT.new w Tok.zero)
  have HR := Lib.hid hr0
  have HK := Lib.hid hk1
  have HXX := Lib.hid hx
  clear hr hk1 hr0 hx
  subst hc
  have HE := Lib.hid hE
  have hk20 : ¬ (k2 : Int) = 0 := by omega
  have hk2b : ((k2 : Int) == 0) = false := beq_eq_false_iff_ne.2 hk20
  clear hE
  go_enter Try.func47, Try.ntmps47
  refine shut_post fun E0 HQ => ?_
  go_wp2_with (go_at_call 68; refine (rrep_any _ (some ad) c p k (HR.out _) hs 43 HXX.out (by decide)).mono ?_; rintro e w1 ⟨rfl, hb⟩; have K1 := Lib.hid (K0.out.step hb); clear hb; rw [HE.out]; have hz1_1 := fun o => (Kp.alloc K1.out o).1.cells; simp only [z_cells] at hz1_1; have hz1_2 := fun o => (Kp.alloc K1.out o).1.frozens; simp only [rtok, rend, Tok.v])
  have FE := fun o => KT.fin (Kp.alloc K1.out o) (t2)
  simp only [setN, Tok.list, Nat.reduceAdd] at FE
  refine HQ.out _ _ ?_
  refine tok_three (t := t2) rfl (FE _).1 rfl rfl rfl ⟨?_, (FE _).2⟩
  rw [rep_yes p k 43 t2 k2 hX.out HE.out (by decide)]
  exact ⟨_, rfl, rfl⟩

set_option maxRecDepth 100000 in
set_option maxHeartbeats 800000 in
theorem rone_rep63Yes (w : World) (A : Option Addr) (c : Nat) (p : List UInt8) (k : Nat) (hr : RdB w w.heap.size A p) (hs : p.length ≤ 1024) (x : Int) (hx : ∃ h : k < p.length, (p[k].toNat : Int) = x) (hc : x = 63) (t2 : Tok) (k2 : Nat) (hE : repM p k 63 = some (t2, k2)) (hk2 : 0 < k2) :
    Calls Try.prog 47 #[.slice A p.length c, .int .i64 k] w fun e w' => ROne w w' k (oneM p k) e := by
  have hk : k < p.length := hx.1
  obtain ⟨ad, rfl⟩ : ∃ ad, A = some ad := by obtain ⟨ad, e, _⟩ := hr.at_ hk; exact ⟨ad, e⟩
  obtain ⟨hx0, hx1⟩ : 0 ≤ x ∧ x ≤ 255 := by obtain ⟨h1, h2⟩ := hx; have := (p[k]).toNat_lt; omega
  have hX := Lib.hid (show byteAt p k = x by obtain ⟨h1, h2⟩ := hx; rw [byteAt_lt p k h1, h2])
  obtain ⟨k1, hk1⟩ : ∃ k1, k1 = k + 1 := ⟨_, rfl⟩
  have hv1 : (k : Int) + 1 = (k1 : Int) := by omega
  have hr0 := fun o => (Reads.more (Reads.alloc hr (Nat.le_refl _) o) (by rw [World.size_alloc]; omega) : RdB (w.alloc o) (w.alloc o).heap.size (some ad) p)
  have hb0 := fun o => RdB.cell_ (hr0 o) hx
  have K0 := Lib.hid (KT.new w Tok.zero)
  have HR := Lib.hid hr0
  have HK := Lib.hid hk1
  have HXX := Lib.hid hx
  clear hr hk1 hr0 hx
  subst hc
  have HE := Lib.hid hE
  have hk20 : ¬ (k2 : Int) = 0 := by omega
  have hk2b : ((k2 : Int) == 0) = false := beq_eq_false_iff_ne.2 hk20
  clear hE
  go_enter Try.func47, Try.ntmps47
  refine shut_post fun E0 HQ => ?_
  go_wp2_with (go_at_call 68; refine (rrep_any _ (some ad) c p k (HR.out _) hs 63 HXX.out (by decide)).mono ?_; rintro e w1 ⟨rfl, hb⟩; have K1 := Lib.hid (K0.out.step hb); clear hb; rw [HE.out]; have hz1_1 := fun o => (Kp.alloc K1.out o).1.cells; simp only [z_cells] at hz1_1; have hz1_2 := fun o => (Kp.alloc K1.out o).1.frozens; simp only [rtok, rend, Tok.v])
  have FE := fun o => KT.fin (Kp.alloc K1.out o) (t2)
  simp only [setN, Tok.list, Nat.reduceAdd] at FE
  refine HQ.out _ _ ?_
  refine tok_three (t := t2) rfl (FE _).1 rfl rfl rfl ⟨?_, (FE _).2⟩
  rw [rep_yes p k 63 t2 k2 hX.out HE.out (by decide)]
  exact ⟨_, rfl, rfl⟩

set_option maxRecDepth 100000 in
set_option maxHeartbeats 800000 in
theorem rone_rep123Yes (w : World) (A : Option Addr) (c : Nat) (p : List UInt8) (k : Nat) (hr : RdB w w.heap.size A p) (hs : p.length ≤ 1024) (x : Int) (hx : ∃ h : k < p.length, (p[k].toNat : Int) = x) (hc : x = 123) (t2 : Tok) (k2 : Nat) (hE : repM p k 123 = some (t2, k2)) (hk2 : 0 < k2) :
    Calls Try.prog 47 #[.slice A p.length c, .int .i64 k] w fun e w' => ROne w w' k (oneM p k) e := by
  have hk : k < p.length := hx.1
  obtain ⟨ad, rfl⟩ : ∃ ad, A = some ad := by obtain ⟨ad, e, _⟩ := hr.at_ hk; exact ⟨ad, e⟩
  obtain ⟨hx0, hx1⟩ : 0 ≤ x ∧ x ≤ 255 := by obtain ⟨h1, h2⟩ := hx; have := (p[k]).toNat_lt; omega
  have hX := Lib.hid (show byteAt p k = x by obtain ⟨h1, h2⟩ := hx; rw [byteAt_lt p k h1, h2])
  obtain ⟨k1, hk1⟩ : ∃ k1, k1 = k + 1 := ⟨_, rfl⟩
  have hv1 : (k : Int) + 1 = (k1 : Int) := by omega
  have hr0 := fun o => (Reads.more (Reads.alloc hr (Nat.le_refl _) o) (by rw [World.size_alloc]; omega) : RdB (w.alloc o) (w.alloc o).heap.size (some ad) p)
  have hb0 := fun o => RdB.cell_ (hr0 o) hx
  have K0 := Lib.hid (KT.new w Tok.zero)
  have HR := Lib.hid hr0
  have HK := Lib.hid hk1
  have HXX := Lib.hid hx
  clear hr hk1 hr0 hx
  subst hc
  have HE := Lib.hid hE
  have hk20 : ¬ (k2 : Int) = 0 := by omega
  have hk2b : ((k2 : Int) == 0) = false := beq_eq_false_iff_ne.2 hk20
  clear hE
  go_enter Try.func47, Try.ntmps47
  refine shut_post fun E0 HQ => ?_
  go_wp2_with (go_at_call 68; refine (rrep_any _ (some ad) c p k (HR.out _) hs 123 HXX.out (by decide)).mono ?_; rintro e w1 ⟨rfl, hb⟩; have K1 := Lib.hid (K0.out.step hb); clear hb; rw [HE.out]; have hz1_1 := fun o => (Kp.alloc K1.out o).1.cells; simp only [z_cells] at hz1_1; have hz1_2 := fun o => (Kp.alloc K1.out o).1.frozens; simp only [rtok, rend, Tok.v])
  have FE := fun o => KT.fin (Kp.alloc K1.out o) (t2)
  simp only [setN, Tok.list, Nat.reduceAdd] at FE
  refine HQ.out _ _ ?_
  refine tok_three (t := t2) rfl (FE _).1 rfl rfl rfl ⟨?_, (FE _).2⟩
  rw [rep_yes p k 123 t2 k2 hX.out HE.out (by decide)]
  exact ⟨_, rfl, rfl⟩

set_option maxRecDepth 100000 in
set_option maxHeartbeats 800000 in
theorem rone_grpNo (w : World) (A : Option Addr) (c : Nat) (p : List UInt8) (k : Nat) (hr : RdB w w.heap.size A p) (hs : p.length ≤ 1024) (x : Int) (hx : ∃ h : k < p.length, (p[k].toNat : Int) = x) (hc : x = 40) (hG : byteAt p (k + 1) ≠ 63) :
    Calls Try.prog 47 #[.slice A p.length c, .int .i64 k] w fun e w' => ROne w w' k (oneM p k) e := by
  have hk : k < p.length := hx.1
  obtain ⟨ad, rfl⟩ : ∃ ad, A = some ad := by obtain ⟨ad, e, _⟩ := hr.at_ hk; exact ⟨ad, e⟩
  obtain ⟨hx0, hx1⟩ : 0 ≤ x ∧ x ≤ 255 := by obtain ⟨h1, h2⟩ := hx; have := (p[k]).toNat_lt; omega
  have hX := Lib.hid (show byteAt p k = x by obtain ⟨h1, h2⟩ := hx; rw [byteAt_lt p k h1, h2])
  obtain ⟨k1, hk1⟩ : ∃ k1, k1 = k + 1 := ⟨_, rfl⟩
  have hv1 : (k : Int) + 1 = (k1 : Int) := by omega
  have hr0 := fun o => (Reads.more (Reads.alloc hr (Nat.le_refl _) o) (by rw [World.size_alloc]; omega) : RdB (w.alloc o) (w.alloc o).heap.size (some ad) p)
  have hb0 := fun o => RdB.cell_ (hr0 o) hx
  have K0 := Lib.hid (KT.new w Tok.zero)
  have HR := Lib.hid hr0
  have HK := Lib.hid hk1
  have HXX := Lib.hid hx
  clear hr hk1 hr0 hx
  subst hc
  have HG := Lib.hid hG
  rw [← HK.out] at HG
  clear hG
  go_enter Try.func47, Try.ntmps47
  refine shut_post fun E0 HQ => ?_
  by_cases hl : k1 < p.length
  · obtain ⟨y, hy⟩ : ∃ y, (p[k1].toNat : Int) = y := ⟨_, rfl⟩
    have hb1 := fun o => RdB.cell_ (HR.out o) ⟨hl, hy⟩
    have hyn : (y != 63) = true := by have := HG.out; rw [byteAt_lt p k1 hl, hy] at this; simpa using this
    clear hy
    go_wp2
    have FE := KT.new w ({ Tok.zero with kind := 4 })
    simp only [Tok.cells, Tok.zero, Cl.zero] at FE
    refine HQ.out _ _ ?_
    refine tok_three (t := { Tok.zero with kind := 4 }) rfl FE.1 rfl rfl rfl ⟨?_, FE.2⟩
    rw [show oneM p k = .ok { Tok.zero with kind := 4, at_ := k } (k + 1) from by rw [oneM_at p k 40 hX.out]; have h := HG.out; rw [HK.out] at h; simp [h]]
    exact ⟨_, by rw [HK.out], rfl⟩

  · have hl0 : p.length ≤ k1 := by omega
    go_wp2
    have FE := KT.new w ({ Tok.zero with kind := 4 })
    simp only [Tok.cells, Tok.zero, Cl.zero] at FE
    refine HQ.out _ _ ?_
    refine tok_three (t := { Tok.zero with kind := 4 }) rfl FE.1 rfl rfl rfl ⟨?_, FE.2⟩
    rw [show oneM p k = .ok { Tok.zero with kind := 4, at_ := k } (k + 1) from by rw [oneM_at p k 40 hX.out]; have h := HG.out; rw [HK.out] at h; simp [h]]
    exact ⟨_, by rw [HK.out], rfl⟩


set_option maxRecDepth 100000 in
set_option maxHeartbeats 800000 in
theorem rone_grpYes (w : World) (A : Option Addr) (c : Nat) (p : List UInt8) (k : Nat) (hr : RdB w w.heap.size A p) (hs : p.length ≤ 1024) (x : Int) (hx : ∃ h : k < p.length, (p[k].toNat : Int) = x) (hc : x = 40) (hG : byteAt p (k + 1) = 63) (hH : byteAt p (k + 2) = 58) :
    Calls Try.prog 47 #[.slice A p.length c, .int .i64 k] w fun e w' => ROne w w' k (oneM p k) e := by
  have hk : k < p.length := hx.1
  obtain ⟨ad, rfl⟩ : ∃ ad, A = some ad := by obtain ⟨ad, e, _⟩ := hr.at_ hk; exact ⟨ad, e⟩
  obtain ⟨hx0, hx1⟩ : 0 ≤ x ∧ x ≤ 255 := by obtain ⟨h1, h2⟩ := hx; have := (p[k]).toNat_lt; omega
  have hX := Lib.hid (show byteAt p k = x by obtain ⟨h1, h2⟩ := hx; rw [byteAt_lt p k h1, h2])
  obtain ⟨k1, hk1⟩ : ∃ k1, k1 = k + 1 := ⟨_, rfl⟩
  have hv1 : (k : Int) + 1 = (k1 : Int) := by omega
  have hr0 := fun o => (Reads.more (Reads.alloc hr (Nat.le_refl _) o) (by rw [World.size_alloc]; omega) : RdB (w.alloc o) (w.alloc o).heap.size (some ad) p)
  have hb0 := fun o => RdB.cell_ (hr0 o) hx
  have K0 := Lib.hid (KT.new w Tok.zero)
  have HR := Lib.hid hr0
  have HK := Lib.hid hk1
  have HXX := Lib.hid hx
  clear hr hk1 hr0 hx
  subst hc
  have HG := Lib.hid hG
  have HH := Lib.hid hH
  rw [← HK.out] at HG
  clear hG hH
  have hl : k1 < p.length := byteAt_pos p k1 (by rw [HG.out]; decide)
  have hl0 : ¬ p.length ≤ k1 := by omega
  have hb1 := fun o => RdB.cell_ (HR.out o) (x := 63) ⟨hl, by rw [← byteAt_lt p k1 hl]; exact HG.out⟩
  obtain ⟨k2, hk2⟩ : ∃ k2, k2 = k + 2 := ⟨_, rfl⟩
  have hv2 : (k : Int) + 2 = (k2 : Int) := by omega
  have HK2 := Lib.hid hk2
  have hl2 : k2 < p.length := byteAt_pos p k2 (by rw [HK2.out, HH.out]; decide)
  have hl3 : ¬ p.length ≤ k2 := by omega
  have hb2 := fun o => RdB.cell_ (HR.out o) (x := 58) ⟨hl2, by rw [← byteAt_lt p k2 hl2, HK2.out]; exact HH.out⟩
  obtain ⟨k3, hk3⟩ : ∃ k3, k3 = k + 3 := ⟨_, rfl⟩
  have hv3 : (k : Int) + 3 = (k3 : Int) := by omega
  have HK3 := Lib.hid hk3
  clear hk2 hk3
  go_enter Try.func47, Try.ntmps47
  refine shut_post fun E0 HQ => ?_
  · skip
    go_wp2
    have FE := KT.new w ({ Tok.zero with kind := 4 })
    simp only [Tok.cells, Tok.zero, Cl.zero] at FE
    refine HQ.out _ _ ?_
    refine tok_three (t := { Tok.zero with kind := 4 }) rfl FE.1 rfl rfl rfl ⟨?_, FE.2⟩
    rw [show oneM p k = .ok { Tok.zero with kind := 4, at_ := k } (k + 3) from by rw [oneM_at p k 40 hX.out]; have h := HG.out; have h2 := HH.out; rw [HK.out] at h; simp [h, h2]]
    exact ⟨_, by rw [HK3.out], rfl⟩


set_option maxRecDepth 100000 in
set_option maxHeartbeats 800000 in
theorem rone_grpBad (w : World) (A : Option Addr) (c : Nat) (p : List UInt8) (k : Nat) (hr : RdB w w.heap.size A p) (hs : p.length ≤ 1024) (x : Int) (hx : ∃ h : k < p.length, (p[k].toNat : Int) = x) (hc : x = 40) (hG : byteAt p (k + 1) = 63) (hH : byteAt p (k + 2) ≠ 58) :
    Calls Try.prog 47 #[.slice A p.length c, .int .i64 k] w fun e w' => ROne w w' k (oneM p k) e := by
  have hk : k < p.length := hx.1
  obtain ⟨ad, rfl⟩ : ∃ ad, A = some ad := by obtain ⟨ad, e, _⟩ := hr.at_ hk; exact ⟨ad, e⟩
  obtain ⟨hx0, hx1⟩ : 0 ≤ x ∧ x ≤ 255 := by obtain ⟨h1, h2⟩ := hx; have := (p[k]).toNat_lt; omega
  have hX := Lib.hid (show byteAt p k = x by obtain ⟨h1, h2⟩ := hx; rw [byteAt_lt p k h1, h2])
  obtain ⟨k1, hk1⟩ : ∃ k1, k1 = k + 1 := ⟨_, rfl⟩
  have hv1 : (k : Int) + 1 = (k1 : Int) := by omega
  have hr0 := fun o => (Reads.more (Reads.alloc hr (Nat.le_refl _) o) (by rw [World.size_alloc]; omega) : RdB (w.alloc o) (w.alloc o).heap.size (some ad) p)
  have hb0 := fun o => RdB.cell_ (hr0 o) hx
  have K0 := Lib.hid (KT.new w Tok.zero)
  have HR := Lib.hid hr0
  have HK := Lib.hid hk1
  have HXX := Lib.hid hx
  clear hr hk1 hr0 hx
  subst hc
  have HG := Lib.hid hG
  have HH := Lib.hid hH
  rw [← HK.out] at HG
  clear hG hH
  have hl : k1 < p.length := byteAt_pos p k1 (by rw [HG.out]; decide)
  have hl0 : ¬ p.length ≤ k1 := by omega
  have hb1 := fun o => RdB.cell_ (HR.out o) (x := 63) ⟨hl, by rw [← byteAt_lt p k1 hl]; exact HG.out⟩
  obtain ⟨k2, hk2⟩ : ∃ k2, k2 = k + 2 := ⟨_, rfl⟩
  have hv2 : (k : Int) + 2 = (k2 : Int) := by omega
  have HK2 := Lib.hid hk2
  clear hk2
  go_enter Try.func47, Try.ntmps47
  refine shut_post fun E0 HQ => ?_
  by_cases hl2 : k2 < p.length
  · obtain ⟨y, hy⟩ : ∃ y, (p[k2].toNat : Int) = y := ⟨_, rfl⟩
    have hb2 := fun o => RdB.cell_ (HR.out o) ⟨hl2, hy⟩
    have hl3 : ¬ p.length ≤ k2 := by omega
    have hyn : (y != 58) = true := by have := HH.out; rw [← HK2.out, byteAt_lt p k2 hl2, hy] at this; simpa using this
    clear hy
    go_wp2
    have FE := KT.new w (Tok.zero)
    simp only [Tok.cells, Tok.zero, Cl.zero] at FE
    refine HQ.out _ _ ?_
    refine tok_three (t := Tok.zero) rfl FE.1 rfl rfl rfl ⟨?_, FE.2⟩
    rw [show oneM p k = .bad k 44 from by rw [oneM_at p k 40 hX.out]; have h := HG.out; have h2 := HH.out; rw [HK.out] at h; simp [h, h2]]
    exact ⟨_, rfl, by decide⟩

  · have hl3 : p.length ≤ k2 := by omega
    go_wp2
    have FE := KT.new w (Tok.zero)
    simp only [Tok.cells, Tok.zero, Cl.zero] at FE
    refine HQ.out _ _ ?_
    refine tok_three (t := Tok.zero) rfl FE.1 rfl rfl rfl ⟨?_, FE.2⟩
    rw [show oneM p k = .bad k 44 from by rw [oneM_at p k 40 hX.out]; have h := HG.out; have h2 := HH.out; rw [HK.out] at h; simp [h, h2]]
    exact ⟨_, rfl, by decide⟩


theorem rone_any (w : World) (A : Option Addr) (c : Nat) (p : List UInt8) (k : Nat) (hr : RdB w w.heap.size A p) (hs : p.length ≤ 1024) (hk : k < p.length) :
    Calls Try.prog 47 #[.slice A p.length c, .int .i64 k] w fun e w' => ROne w w' k (oneM p k) e := by
  obtain ⟨x, hx⟩ : ∃ x, ∃ h : k < p.length, (p[k].toNat : Int) = x := ⟨_, hk, rfl⟩
  have hrep : ∀ y t2 k2, repM p k y = some (t2, k2) → 0 < k2 := by
    intro y t2 k2 h
    unfold repM at h
    rcases hb : repB p k y with _ | ⟨t, j⟩
    · rw [hb] at h; cases h
    · have hj : 0 < j := repB_pos p k y t j hk hb
      rw [hb] at h
      simp only at h
      split at h <;> (injection h with h; injection h with _ h; omega)
  by_cases c92 : x = 92
  · rcases hE : escM p (k + 1) with _ | ⟨t2, k2⟩
    · exact rone_escNo w A c p k hr hs x hx c92 hE
    · exact rone_escYes w A c p k hr hs x hx c92 t2 k2 hE
  by_cases c91 : x = 91
  · rcases hS : setM p k (decide (byteAt p (k + 1) = 94)) (p.length + 1) (if decide (byteAt p (k + 1) = 94) then k + 2 else k + 1) true Cl.zero with ⟨cl, k2⟩ | ⟨a, er⟩
    · exact rone_braYes w A c p k hr hs x hx c91 _ rfl cl k2 hS
    · exact rone_braNo w A c p k hr hs x hx c91 _ rfl a er hS
  by_cases c46 : x = 46
  · exact rone_46 w A c p k hr hs x hx c46
  by_cases c40 : x = 40
  · by_cases h1 : byteAt p (k + 1) = 63
    · by_cases h2 : byteAt p (k + 2) = 58
      · exact rone_grpYes w A c p k hr hs x hx c40 h1 h2
      · exact rone_grpBad w A c p k hr hs x hx c40 h1 h2
    · exact rone_grpNo w A c p k hr hs x hx c40 h1
  by_cases c41 : x = 41
  · exact rone_41 w A c p k hr hs x hx c41
  by_cases c124 : x = 124
  · exact rone_124 w A c p k hr hs x hx c124
  by_cases c94 : x = 94
  · exact rone_94 w A c p k hr hs x hx c94
  by_cases c36 : x = 36
  · exact rone_36 w A c p k hr hs x hx c36
  by_cases c42 : x = 42
  · rcases hE : repM p k 42 with _ | ⟨t2, k2⟩
    · exact absurd hE (rep_some p k 42 (by decide))
    · exact rone_rep42Yes w A c p k hr hs x hx c42 t2 k2 hE (hrep _ _ _ hE)
  by_cases c43 : x = 43
  · rcases hE : repM p k 43 with _ | ⟨t2, k2⟩
    · exact absurd hE (rep_some p k 43 (by decide))
    · exact rone_rep43Yes w A c p k hr hs x hx c43 t2 k2 hE (hrep _ _ _ hE)
  by_cases c63 : x = 63
  · rcases hE : repM p k 63 with _ | ⟨t2, k2⟩
    · exact absurd hE (rep_some p k 63 (by decide))
    · exact rone_rep63Yes w A c p k hr hs x hx c63 t2 k2 hE (hrep _ _ _ hE)
  by_cases c123 : x = 123
  · rcases hE : repM p k 123 with _ | ⟨t2, k2⟩
    · exact rone_rep123No w A c p k hr hs x hx c123 hE
    · exact rone_rep123Yes w A c p k hr hs x hx c123 t2 k2 hE (hrep _ _ _ hE)
  exact rone_byte w A c p k hr hs x hx c92 c91 c46 c40 c41 c124 c94 c36 c43 c42 c63 c123
end Go.Proofs.Ytkfjnllbjlndlaa
