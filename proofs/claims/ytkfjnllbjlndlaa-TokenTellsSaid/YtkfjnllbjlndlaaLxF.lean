/- The lexer's number. -/
import Derived.Test.YtkfjnllbjlndlaaLxE
namespace Go.Proofs.Ytkfjnllbjlndlaa
open Go.RowKit

theorem numL_step (p : List UInt8) (k : Nat) (n : Int) (h : k < p.length) (hd : digM (byteAt p k) = true) : numL p (p.length - k) k n = numL p (p.length - (k + 1)) (k + 1) (min (10 * n + (byteAt p k - 48)) 1001) := by
  obtain ⟨f, hf⟩ : ∃ f, p.length - k = f + 1 := ⟨p.length - k - 1, by omega⟩
  rw [hf, show p.length - (k + 1) = f from by omega]
  simp only [numL, hd, if_true]
theorem numL_stop (p : List UInt8) (k : Nat) (n : Int) (h : k < p.length → digM (byteAt p k) = false) : numL p (p.length - k) k n = (n, k) := by
  by_cases hk : k < p.length
  · obtain ⟨f, hf⟩ : ∃ f, p.length - k = f + 1 := ⟨p.length - k - 1, by omega⟩
    rw [hf]
    simp only [numL, h hk, Bool.false_eq_true, if_false]
  · rw [show p.length - k = 0 from by omega]; rfl

theorem numM_of (p : List UInt8) (k m : Nat) (n y : Int) (h : numL p (p.length - k) k 0 = (n, m)) (hy : byteAt p k = y) : numM p k = if m = k ∨ (y = 48 ∧ k + 1 < m) ∨ 1000 < n then none else some (n, m) := by
  unfold numM
  rw [h, hy]
theorem num_end (p : List UInt8) (k m : Nat) (n y : Int) (b : Bool) (h : numL p (p.length - k) k 0 = (n, m)) (hy : byteAt p k = y) (hb : b = decide (¬ (m = k ∨ (y = 48 ∧ k + 1 < m) ∨ 1000 < n))) : numM p k = if b then some (n, m) else none := by
  rw [numM_of p k m n y h hy, hb]
  by_cases hc : m = k ∨ (y = 48 ∧ k + 1 < m) ∨ 1000 < n <;> simp [hc]
theorem num_no (p : List UInt8) (k m : Nat) (n y n' : Int) (h : numL p (p.length - k) k 0 = (n, m)) (hy : byteAt p k = y) (hb : m = k ∨ (y = 48 ∧ k + 1 < m) ∨ 1000 < n) : numM p k = if false then some (n', m) else none := by
  rw [numM_of p k m n y h hy, if_pos hb]; rfl

/-- Where a lexer stands, read from its cell. -/
def posW (g : Nat) (w : World) : Nat := match w.cell? ⟨g, 1, none⟩ with | some (.int _ n) => n.toNat | _ => 0
theorem Lx.pos {w : World} {g B c k : Nat} {A : Option Addr} {p : List UInt8} (h : Lx w g B A c p k) : posW g w = k := by
  unfold posW
  rw [h.x.cells 1]
  simp

def NumRes (w' : World) (g B : Nat) (A : Option Addr) (c : Nat) (p : List UInt8) (o : Option (Int × Nat)) (e : Ending) : Prop :=
  ∃ (n : Int) (k' : Nat) (b : Bool), e = .returned (.tuple #[.int .i64 n, .bool b]) ∧ Lx w' g B A c p k' ∧ o = (if b then some (n, k') else none) ∧ 0 ≤ n ∧ n ≤ 1001

set_option maxRecDepth 100000 in
set_option maxHeartbeats 400000 in
theorem number_any (w : World) (g B : Nat) (A : Option Addr) (c : Nat) (p : List UInt8) (k : Nat) (h : Lx w g B A c p k) :
    Calls Try.prog 65 #[.pointer (some ⟨g, 0, none⟩)] w fun e w' => NumRes w' g B A c p (numM p k) e ∧ Only g w w' := by
  have H := Lib.hid h
  have hs := h.small
  have hk := h.at_
  have hcell := h.x.cells
  clear h
  go_enter Try.func65, Try.ntmps65
  go_wp2
  go_loopw [5] (fun q wr => ∃ (m : Nat) (n : Int), q = .int .i64 n ∧ k ≤ m ∧ 0 ≤ n ∧ n ≤ 1001 ∧ Lx wr g B A c p m ∧ Only g w wr ∧ numL p (p.length - m) m n = numL p (p.length - k) k 0) (fun _ wr => p.length - posW g wr)
  case atStart => exact ⟨k, 0, rfl, Nat.le_refl _, by omega, by omega, H.out, Only.refl _ _, rfl⟩
  case round =>
    obtain ⟨m, n, rfl, hm, hn0, hn1, hl, ho, hnum⟩ := hrel
    have HL := Lib.hid hl
    have HN := Lib.hid hnum
    have HO := Lib.hid ho
    have hm1 := hl.at_
    have hpos := Lib.hid hl.pos
    have hc1 := hl.x.cells
    have hf1 := hl.x.frozens
    clear hnum ho hcell
    by_cases hlt : m < p.length
    · obtain ⟨x, hx⟩ : ∃ x, (p[m].toNat : Int) = x := ⟨_, rfl⟩
      have hx01 : 0 ≤ x ∧ x ≤ 255 := by have := (p[m]).toNat_lt; omega
      obtain ⟨hx0, hx1⟩ := hx01
      obtain ⟨ad, rfl⟩ : ∃ ad, A = some ad := by obtain ⟨ad, e, _⟩ := hl.r.at_ hlt; exact ⟨ad, e⟩
      have hb0 := hl.r.cell_ ⟨hlt, hx⟩
      have HX := Lib.hid (show byteAt p m = x by rw [byteAt_lt p m hlt, hx])
      have HD := Lib.hid (show decide (m + 0 < p.length) = true by simpa using hlt)
      clear hl hx
      by_cases hd : digM x = true
      · have HDD := Lib.hid hd
        obtain ⟨hd0, hd1⟩ : 48 ≤ x ∧ x ≤ 57 := by simpa [digM] using hd
        obtain ⟨m1, hm1e⟩ : ∃ m1, m1 = m + 1 := ⟨_, rfl⟩
        have hw1 : IntKind.i64.wrap ((m : Int) + 1) = (m1 : Int) := by rw [wrap_id _ (by omega) (by omega)]; omega
        have HM := Lib.hid hm1e
        clear hd hm1e
        go_wp2
        go_quiet ((first | (go_at_call 42; exact Calls.quiet_of (more_lit _ g B (some ad) c p m 0 true (Lx.drewN HL.out _) (by omega) HD.out)) | (go_at_call 59; exact q0 (fun W => dig_lit x true W (by omega) (by omega) HDD.out))))
        go_wp2
        go_quiet (fail)
        go_wp2
        have hst := fun i => (HL.out.drewN i).step m1 (by have := HM.out; omega)
        refine ⟨⟨m1, _, rfl, by have := HM.out; omega, by split <;> omega, by split <;> omega, (hst _).1, (HO.out.drewN _).trans (hst _).2, ?_⟩, ?_⟩
        · rw [← HN.out, numL_step p m n hlt (by rw [HX.out]; exact HDD.out), HX.out, HM.out]
          congr 1
          rw [Int.min_def]
          split <;> split <;> omega
        · rw [(hst _).1.pos, HL.out.pos]; have := HM.out; omega
      · have hdf : digM x = false := by simpa using hd
        have HDD := Lib.hid hdf
        have hend := numL_stop p m n (fun _ => by rw [HX.out]; exact HDD.out)
        rw [HN.out] at hend
        have HE := Lib.hid hend
        clear hd hdf hend
        have hk0 : k < p.length := by omega
        obtain ⟨y, hy⟩ : ∃ y, (p[k].toNat : Int) = y := ⟨_, rfl⟩
        have hb1 := HL.out.r.cell_ ⟨hk0, hy⟩
        have HY := Lib.hid (show byteAt p k = y by rw [byteAt_lt p k hk0, hy])
        have hwk : IntKind.i64.wrap ((k : Int) + 1) = (k : Int) + 1 := wrap_id _ (by omega) (by omega)
        clear hy
        go_wp2
        go_quiet ((first | (go_at_call 42; exact Calls.quiet_of (more_lit _ g B (some ad) c p m 0 true (Lx.drewN HL.out _) (by omega) HD.out)) | (go_at_call 59; exact q0 (fun W => dig_lit x false W (by omega) (by omega) HDD.out))))
        go_wp2
        all_goals
          go_ret2
          refine ⟨⟨_, m, _, rfl, HL.out.drewN _, ?_, by omega, by omega⟩, HO.out.drewN _⟩
          first
            | exact num_no p k m n y _ HE.out HY.out (by (try simp only [beq_iff_eq] at *); omega)
            | exact num_end p k m n y _ HE.out HY.out (by rw [Bool.eq_iff_iff]; simp only [decide_eq_true_eq]; omega)
    · have HD := Lib.hid (show decide (m + 0 < p.length) = false by simpa using hlt)
      have hend := numL_stop p m n (fun h => absurd h hlt)
      rw [HN.out] at hend
      have HE := Lib.hid hend
      clear hend hl
      by_cases hk0 : k < p.length
      · obtain ⟨y, hy⟩ : ∃ y, (p[k].toNat : Int) = y := ⟨_, rfl⟩
        obtain ⟨ad, rfl⟩ : ∃ ad, A = some ad := by obtain ⟨ad, e, _⟩ := HL.out.r.at_ hk0; exact ⟨ad, e⟩
        have hb1 := HL.out.r.cell_ ⟨hk0, hy⟩
        have HY := Lib.hid (show byteAt p k = y by rw [byteAt_lt p k hk0, hy])
        have hwk : IntKind.i64.wrap ((k : Int) + 1) = (k : Int) + 1 := wrap_id _ (by omega) (by omega)
        clear hy
        go_wp2
        go_quiet ((go_at_call 42; exact Calls.quiet_of (more_lit _ g B (some ad) c p m 0 false (Lx.drewN HL.out _) (by omega) HD.out)))
        go_wp2
        all_goals
          go_ret2
          refine ⟨⟨_, m, _, rfl, HL.out.drewN _, ?_, by omega, by omega⟩, HO.out.drewN _⟩
          first
            | exact num_no p k m n y _ HE.out HY.out (by (try simp only [beq_iff_eq] at *); omega)
            | exact num_end p k m n y _ HE.out HY.out (by rw [Bool.eq_iff_iff]; simp only [decide_eq_true_eq]; omega)
      · have hmk : m = k := by omega
        subst hmk
        go_wp2
        go_quiet ((go_at_call 42; exact Calls.quiet_of (more_lit _ g B A c p m 0 false (Lx.drewN HL.out _) (by omega) HD.out)))
        go_wp2
        go_ret2
        exact ⟨⟨_, m, _, rfl, HL.out.drewN _, num_no p m m n _ _ HE.out rfl (by omega), by omega, by omega⟩, HO.out.drewN _⟩
end Go.Proofs.Ytkfjnllbjlndlaa
