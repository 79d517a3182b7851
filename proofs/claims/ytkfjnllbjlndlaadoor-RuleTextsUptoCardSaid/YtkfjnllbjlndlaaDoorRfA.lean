/- riddleref20.Check, riddleref20.ident, riddleref20.num. -/
import Derived.Test.YtkfjnllbjlndlaaDoorRuB
import Derived.Test.YtkfjnllbjlndlaaDoorId
import Derived.LoopTactic
import Derived.LoopN
namespace Go.Proofs.YtkfjnllbjlndlaaDoor
open Go.RowKit

theorem index_has {p : List UInt8} {k : Nat} (h : p[k]? = some 10) : 0 ≤ Lib.indexByte p 10 := by
  rcases Int.lt_or_le (Lib.indexByte p 10) 0 with h0 | h0
  · exact absurd h (Lib.indexByte_none (show Lib.indexByte p 10 = -1 by have := Lib.indexByte_ge p 10; omega) k)
  · exact h0
theorem index_not {p : List UInt8} (h : ∀ j, j < p.length → p[j]? ≠ some 10) : Lib.indexByte p 10 < 0 := by
  rcases Int.lt_or_le (Lib.indexByte p 10) 0 with h0 | h0
  · exact h0
  · obtain ⟨i, hi⟩ := Int.eq_ofNat_of_zero_le h0
    have h1 := (Lib.indexByte_some hi).1
    exact absurd h1 (h i (List.getElem?_eq_some_iff.1 h1).1)

set_option maxRecDepth 100000 in
set_option maxHeartbeats 2000000 in
theorem rcheck_any (w : World) (r : Ru) (A : Option Addr) (c : Nat) (h : RdB w w.heap.size A r.p) (hn : r.p.length ≤ 140737488351232) :
    Calls Tryd.prog 39 #[r.v A c] w fun e w' => e = .returned (.int .i64 r.chk) ∧ Below w.heap.size w w' := by
  obtain ⟨id, f, p⟩ := r
  unfold Ru.v Ru.cells Ru.chk
  simp only at h hn ⊢
  have H := Lib.hid (show ∀ o, RdB (w.alloc o) (w.alloc o).heap.size A p from fun o => Reads.more (Reads.alloc h (Nat.le_refl _) _) (by simp))
  have HB := Lib.hid (show ∀ o, Below w.heap.size w (w.alloc o) from fun o => (Below.refl _ w).alloc (Nat.le_refl _) _)
  clear h
  by_cases h1 : id < 1
  · rw [if_pos (.inl h1)]
    go_enter Tryd.func39, Tryd.ntmps39
    go_wp2
    go_ret
    exact ⟨rfl, HB.out _⟩
  · by_cases h2 : 2147483648 < id
    · rw [if_pos (.inr (.inl h2))]
      go_enter Tryd.func39, Tryd.ntmps39
      go_wp2
      go_ret
      exact ⟨rfl, HB.out _⟩
    · have HG := Lib.hid (And.intro h1 h2)
      obtain ⟨E, hE⟩ : ∃ E, E = (if id < 1 ∨ 2147483648 < id ∨ 0 ≤ Lib.indexByte p 10 then (200 : Int) else if 1024 < p.length then 3 else 0) := ⟨_, rfl⟩
      rw [← hE]
      have HE := Lib.hid hE
      clear hE
      go_enter Tryd.func39, Tryd.ntmps39
      go_wp2
      go_loop [3] (fun q => ∃ k : Nat, q = .int .i64 k ∧ k ≤ p.length ∧ ∀ j, j < k → p[j]? ≠ some 10) (fun q => p.length - (intOf q).toNat)
      case atStart => exact ⟨0, rfl, Nat.zero_le _, fun j hj => by omega⟩
      case round =>
        obtain ⟨k, rfl, hk, hno⟩ := hrel
        have HNO := Lib.hid hno
        clear hno
        by_cases hlt : k < p.length
        · obtain ⟨ad, rfl, hab, hcell0⟩ := (H.out (.cells #[.int .i64 id, .bool f.i, .bool f.s, .bool f.m, .bool f.o, .bool f.l, .slice A p.length c] 26)).at_ hlt
          by_cases hc : p[k] = 10
          · rw [hc] at hcell0
            have hcell : ((w.alloc (.cells #[.int .i64 id, .bool f.i, .bool f.s, .bool f.m, .bool f.o, .bool f.l, .slice (some ad) p.length c] 26)).cell? (ad.add k)) = some (.int .u8 10) := hcell0
            have HC := Lib.hid hc
            clear hc hcell0
            go_wp2
            go_ret
            have := HC.out
            rw [HE.out, if_pos (.inr (.inr (index_has (k := k) (by rw [List.getElem?_eq_getElem hlt, this]))))]
            exact ⟨rfl, HB.out _⟩
          · have hcf := u8_lit' p[k] 10 (by omega) hc
            have HC := Lib.hid hc
            clear hc
            go_wp2
            refine ⟨⟨k + 1, by go_num, hlt, fun j hj => ?_⟩, by simp only [intOf]; omega⟩
            by_cases hjk : j = k
            · subst hjk
              rw [List.getElem?_eq_getElem hlt]
              intro e
              injection e with e
              exact HC.out e
            · exact HNO.out j (by omega)
        · obtain rfl : k = p.length := by omega
          have hix := Lib.hid (index_not HNO.out)
          by_cases h4 : 1024 < p.length
          · have h5 : (1024 : Int) < (p.length : Int) := by omega
            go_wp2
            go_ret
            rw [HE.out, if_neg (by have := hix.out; have := HG.out; omega), if_pos h4]
            exact ⟨rfl, HB.out _⟩
          · have h5 : ¬ (1024 : Int) < (p.length : Int) := by omega
            go_wp2
            go_ret
            rw [HE.out, if_neg (by have := hix.out; have := HG.out; omega), if_neg h4]
            exact ⟨rfl, HB.out _⟩

set_option maxRecDepth 100000 in
set_option maxHeartbeats 4000000 in
theorem ident_any (w : World) (B : Nat) (A : Option Addr) (c : Nat) (bs : List UInt8) (h : RdB w B A bs) (hn : bs.length ≤ 140737488351232) :
    Calls Tryd.prog 65 #[.slice A bs.length c] w fun e w' => e = .returned (.tuple #[.int .i64 (idM bs 0 0).1, .int .i64 ((idM bs 0 0).2.1 + if (idM bs 0 0).2.2 then 1 else 0), .bool (idM bs 0 0).2.2]) ∧ w = w' := by
  have H := Lib.hid h
  clear h
  obtain ⟨⟨rv, ra, ro⟩, hR⟩ : ∃ R, R = idM bs 0 0 := ⟨_, rfl⟩
  rw [← hR]
  have HR := Lib.hid hR
  clear hR
  simp only
  obtain ⟨rb, hrb⟩ : ∃ x : Int, x = ra + (if ro = true then 1 else 0) := ⟨_, rfl⟩
  rw [← hrb]
  have HRB := Lib.hid hrb
  clear hrb
  go_enter Tryd.func65, Tryd.ntmps65
  go_wp2
  go_loop [5, 6] (fun q p => ∃ (k : Nat) (n : Int), k ≤ bs.length ∧ 0 ≤ n ∧ n ≤ 2147483648 ∧ q = .int .i64 n ∧ p = .int .i64 k ∧ idM (bs.drop k) n k = (rv, ra, ro)) (fun _ p => bs.length - (intOf p).toNat)
  case atStart => exact ⟨0, 0, by omega, by omega, by omega, rfl, rfl, by rw [HR.out]; rfl⟩
  case round =>
    obtain ⟨k, n, hk, hn0, hn1, rfl, rfl, hid⟩ := hrel
    by_cases hlt : k < bs.length
    · obtain ⟨ad, rfl, _, hcell⟩ := H.out.at_ hlt
      rw [List.drop_eq_getElem_cons hlt, idM] at hid
      have hc0 : 0 ≤ ((bs[k]).toNat : Int) := by omega
      have hc1 : ((bs[k]).toNat : Int) ≤ 255 := by have := (bs[k]).toNat_lt; omega
      generalize ((bs[k]).toNat : Int) = ci at *
      have HI := Lib.hid hid
      clear hid
      have hcell0 : k = 0 → w.cell? ad = some (.int .u8 ci) := by rintro rfl; simpa [Addr.add] using hcell
      rcases Nat.eq_zero_or_pos k with rfl | hk0
      rotate_left
      clear hcell0
      rotate_left
      replace hcell0 := hcell0 rfl
      rotate_left
      all_goals
        go_wp2
        all_goals
          have hI := HI.out
          try simp only [beq_iff_eq, beq_eq_false_iff_ne, ne_eq] at *
          first
            | rw [if_pos (by omega)] at hI
            | rw [if_neg (by omega), if_pos (by omega)] at hI
            | rw [if_neg (by omega), if_neg (by omega)] at hI
          first
            | exact ⟨⟨_ + 1, _, by omega, by omega, by omega, rfl, by go_num, hI⟩, by simp [intOf]; omega⟩
            | (injection hI with e1 e2; injection e2 with e2 e3; subst e1 e2 e3; go_ret3; exact ⟨by rw [HRB.out]; simp, rfl⟩)
    · obtain rfl : k = bs.length := by omega
      rw [List.drop_length, idM] at hid
      injection hid with e1 e2
      injection e2 with e2 e3
      subst e1 e2 e3
      have hkk : ¬ (bs.length : Int) < (bs.length : Int) := by omega
      go_wp2
      all_goals first | (exact absurd ‹false = true› (by decide)) | (go_ret3; exact ⟨by rw [HRB.out]; simp, rfl⟩)
end Go.Proofs.YtkfjnllbjlndlaaDoor
