/- The reference's count. -/
import Derived.Test.YtkfjnllbjlndlaaRcC
import Derived.Deep.CutRange
namespace Go.Proofs.Ytkfjnllbjlndlaa
open Go.RowKit

theorem numL_ge (p : List UInt8) : ∀ (f k : Nat) (n : Int), 0 ≤ n → k ≤ (numL p f k n).2 ∧ (numL p f k n).2 ≤ k + f ∧ 0 ≤ (numL p f k n).1
  | 0, k, n, h => ⟨Nat.le_refl _, Nat.le_refl _, h⟩
  | f + 1, k, n, h => by
    rw [numL]
    by_cases hd : digM (byteAt p k) = true
    · have h2 : 48 ≤ byteAt p k ∧ byteAt p k ≤ 57 := by simpa [digM] using hd
      rw [if_pos hd]
      have := numL_ge p f (k + 1) (min (10 * n + (byteAt p k - 48)) 1001) (by omega)
      omega
    · rw [if_neg hd]; exact ⟨Nat.le_refl _, by simp, h⟩
theorem numM_facts (p : List UInt8) (k m : Nat) (n : Int) (hk : k ≤ p.length) (h : numM p k = some (n, m)) : k < m ∧ m ≤ p.length ∧ 0 ≤ n ∧ n ≤ 1000 ∧ digM (byteAt p k) = true := by
  have h1 := numL_ge p (p.length - k) k 0 (by omega)
  unfold numM at h
  simp only at h
  by_cases hc : (numL p (p.length - k) k 0).2 = k ∨ byteAt p k = 48 ∧ k + 1 < (numL p (p.length - k) k 0).2 ∨ 1000 < (numL p (p.length - k) k 0).1
  · rw [if_pos hc] at h; cases h
  · rw [if_neg hc] at h
    injection h with h
    have hd : digM (byteAt p k) = true := by
      rcases hd : digM (byteAt p k) with _ | _
      · exfalso
        have := numL_stop p k 0 (fun _ => hd)
        rw [this] at hc
        exact hc (.inl rfl)
      · rfl
    rw [h] at h1 hc
    simp only at h1 hc
    exact ⟨by omega, by omega, by omega, by omega, hd⟩
/-- What a count has at its most, and where its } stands. -/
def cntMid (p : List UInt8) (n : Int) (k1 : Nat) : Int × Nat := if byteAt p k1 = 44 then (match numM p (k1 + 1) with | some r => r | none => (-1, k1 + 1)) else (n, k1)
theorem cntM_ref (p : List UInt8) (k : Nat) (hk : k ≤ p.length) : cntM p k = match numM p k with
    | none => none
    | some (n, k1) => if byteAt p (cntMid p n k1).2 ≠ 125 ∨ (0 ≤ (cntMid p n k1).1 ∧ (cntMid p n k1).1 < n) then none else some ({ Tok.zero with kind := 7, least := n, most := (cntMid p n k1).1 }, (cntMid p n k1).2 + 1) := by
  unfold cntM
  rcases hn : numM p k with _ | ⟨n, k1⟩
  · rfl
  · obtain ⟨f1, f2, f3, f4, _⟩ := numM_facts p k k1 n hk hn
    simp only
    unfold cntMid
    by_cases h44 : byteAt p k1 = 44
    · rw [if_pos h44, if_pos h44]
      have hk1 : k1 < p.length := byteAt_pos p k1 (by omega)
      rcases hm : numM p (k1 + 1) with _ | ⟨m, k2⟩
      · simp only
        by_cases h125 : byteAt p (k1 + 1) = 125
        · rw [if_pos h125, if_neg (by omega)]
        · rw [if_neg h125, if_pos (.inl h125)]
      · obtain ⟨g1, g2, g3, g4, g5⟩ := numM_facts p (k1 + 1) k2 m (by omega) hm
        have h125 : ¬ byteAt p (k1 + 1) = 125 := by intro h; rw [h] at g5; exact absurd g5 (by decide)
        simp only
        rw [if_neg h125]
        by_cases hc : m < n ∨ byteAt p k2 ≠ 125
        · rw [if_pos hc, if_pos (by omega)]
        · rw [if_neg hc, if_neg (by omega)]
    · rw [if_neg h44, if_neg h44]
      simp only
      by_cases h125 : byteAt p k1 = 125
      · rw [if_pos h125, if_neg (by omega)]
      · rw [if_neg h125, if_pos (.inl h125)]

theorem z_cells : Tok.zero.cells = #[.int .i64 0, .int .u8 0, .int .u64 0, .int .u64 0, .int .u64 0, .int .u64 0, .bool false, .int .i64 0, .int .i64 0, .bool false, .int .i64 0] := rfl

set_option maxRecDepth 100000 in
set_option maxHeartbeats 4000000 in
theorem rcnt_any (w : World) (A : Option Addr) (c : Nat) (p : List UInt8) (k : Nat) (hr : RdB w w.heap.size A p) (hs : p.length ≤ 1024) (hk : k < p.length) :
    Calls Try.prog 85 #[.slice A p.length c, .int .i64 k] w fun e w' => RTok w w' (cntM p (k + 1)) e := by
  obtain ⟨j, hj⟩ : ∃ j, j = k + 1 := ⟨_, rfl⟩
  have hv0 : (k : Int) + 1 = (j : Int) := by omega
  have hjl : j ≤ p.length := by omega
  rw [← hj]
  have HM := Lib.hid (cntM_ref p j hjl)
  have hr0 : RdB (w.alloc (.cells Tok.zero.cells 49)) (w.alloc (.cells Tok.zero.cells 49)).heap.size A p := Reads.more (Reads.alloc hr (Nat.le_refl _) _) (by rw [World.size_alloc]; omega)
  have hk0 := KT.new w Tok.zero
  simp only [KT, z_cells] at hr0 hk0
  have HR := Lib.hid hr0
  have K0 := Lib.hid hk0
  clear hr hj hr0 hk0
  rcases hn : numM p j with _ | ⟨n, k1⟩
  · have HN := Lib.hid hn
    clear hn
    go_enter Try.func85, Try.ntmps85
    refine shut_post fun E0 HQ => ?_
    go_wp2_with (go_at_call 88; refine (rnum_any _ A c p j HR.out hs hjl).mono ?_; rintro e w1 ⟨⟨a, b, rfl, ha, hb⟩, rfl⟩; rw [HN.out] at ha hb; obtain rfl : a = 0 := ha; obtain rfl : b = 0 := hb)
    have FE := K0.out
    refine HQ.out _ _ ?_
    refine tok_two (t := Tok.zero) rfl FE.1 rfl rfl (RTok.mk_ ?_ ?_ FE.2)
    all_goals (rw [HM.out, HN.out]; rfl)
  · obtain ⟨f1, f2, f3, f4, _⟩ := numM_facts p j k1 n hjl hn
    have HN := Lib.hid hn
    clear hn
    obtain ⟨k1', hk1'⟩ : ∃ k1', k1' = k1 + 1 := ⟨_, rfl⟩
    have hv1 : (k1 : Int) + 1 = (k1' : Int) := by omega
    have HK1 := Lib.hid hk1'
    have HM' := Lib.hid (HM.out.trans (by rw [HN.out]))
    clear hk1'
    go_enter Try.func85, Try.ntmps85
    refine shut_post fun E0 HQ => ?_
    go_upto_region 4 with (go_at_call 88; refine (rnum_any _ A c p j HR.out hs hjl).mono ?_; rintro e w1 ⟨⟨a, b, rfl, ha, hb⟩, rfl⟩; rw [HN.out] at ha hb; obtain rfl : a = n := ha; obtain rfl : b = k1 := hb)
    have hk1 : 0 < k1 := by omega
    have hkb : ((k1 : Int) == 0) = false := by rw [beq_eq_false_iff_ne]; omega
    clear hkb
    have hk1i : ¬ (k1 : Int) = 0 := by omega
    go_upto_region 5 with fail
    go_cut [32] from 22 to 32 (fun s wx => s = .bool (decide (byteAt p k1 = 44)) ∧ wx = w.alloc (.cells #[.int .i64 0, .int .u8 0, .int .u64 0, .int .u64 0, .int .u64 0, .int .u64 0, .bool false, .int .i64 0, .int .i64 0, .bool false, .int .i64 0] 49))
    case first =>
      by_cases hl : k1 < p.length
      · obtain ⟨y, hy⟩ : ∃ y, (p[k1].toNat : Int) = y := ⟨_, rfl⟩
        obtain ⟨ad, rfl⟩ : ∃ ad, A = some ad := by obtain ⟨ad, e, _⟩ := HR.out.at_ hl; exact ⟨ad, e⟩
        have hb := RdB.cell_ HR.out ⟨hl, hy⟩
        have HY := Lib.hid (show byteAt p k1 = y by rw [byteAt_lt p k1 hl, hy])
        clear hy
        go_wp2_with fail
        go_meet
        exact ⟨by rw [HY.out]; rfl, rfl⟩
      · have HY := Lib.hid (show byteAt p k1 = -1 by rw [byteAt_ge p k1 (by omega)])
        go_wp2_with fail
        go_meet
        exact ⟨by rw [HY.out]; rfl, rfl⟩
    case rest =>
      obtain ⟨rfl, rfl⟩ := hcut
      by_cases h44 : byteAt p k1 = 44
      · have hk1l : k1 < p.length := byteAt_pos p k1 (by omega)
        rw [show decide (byteAt p k1 = 44) = true from by simp [h44]]
        have H44 := Lib.hid h44
        have hk1p : k1' ≤ p.length := by have := HK1.out; omega
        clear h44
        rcases hm : numM p k1' with _ | ⟨m, k2⟩
        · have HMm := Lib.hid hm
          have HMID := Lib.hid (show cntMid p a k1 = (-1, k1') by unfold cntMid; rw [if_pos H44.out, ← HK1.out, HMm.out])
          clear hm
          go_upto_region 12 with (go_at_call 88; refine (rnum_any _ A c p k1' HR.out hs hk1p).mono ?_; rintro e w1 ⟨⟨a', b', rfl, ha, hb⟩, rfl⟩; rw [HMm.out] at ha hb; obtain rfl : a' = 0 := ha; obtain rfl : b' = 0 := hb)
          by_cases hl : k1' < p.length
          · obtain ⟨y, hy⟩ : ∃ y, (p[k1'].toNat : Int) = y := ⟨_, rfl⟩
            obtain ⟨ad, rfl⟩ : ∃ ad, A = some ad := by obtain ⟨ad, e, _⟩ := HR.out.at_ hl; exact ⟨ad, e⟩
            have hb := RdB.cell_ HR.out ⟨hl, hy⟩
            have HY := Lib.hid (show byteAt p k1' = y by rw [byteAt_lt p k1' hl, hy])
            obtain ⟨K1, hK1⟩ : ∃ K1, K1 = k1' + 1 := ⟨_, rfl⟩
            have hvK : (k1' : Int) + 1 = (K1 : Int) := by omega
            have HK1' := Lib.hid hK1
            clear hy hK1
            by_cases h125 : y = 125
            · subst h125
              by_cases hlt : (-1 : Int) < a
              · by_cases hM0 : (0 : Int) ≤ (-1 : Int)
                · skip
                  go_wp2_with fail
                  all_goals (try (exfalso; omega))
                  all_goals
                    have FE := K0.out
                    refine HQ.out _ _ ?_
                    refine tok_two (t := Tok.zero) rfl FE.1 rfl rfl (RTok.mk_ ?_ ?_ FE.2)
                    all_goals (rw [HM'.out, HMID.out]; simp only; rw [if_pos (.inr ⟨hM0, hlt⟩)]; rfl)
                · skip
                  go_wp2_with fail
                  all_goals (try (exfalso; omega))
                  all_goals
                    have FE := KT.new w { Tok.zero with kind := 7, least := a, most := (-1 : Int) }
                    simp only [Tok.cells, Tok.zero, Cl.zero] at FE
                    refine HQ.out _ _ ?_
                    refine tok_two (t := { Tok.zero with kind := 7, least := a, most := (-1 : Int) }) rfl FE.1 rfl rfl (RTok.mk_ ?_ ?_ FE.2)
                    all_goals (rw [HM'.out, HMID.out]; simp only; rw [HY.out, if_neg (by omega)]; simp [rtok, rend]; try (have := HK1'.out; have := HK1.out; omega))
              · skip
                go_wp2_with fail
                all_goals (try (exfalso; omega))
                all_goals
                  have FE := KT.new w { Tok.zero with kind := 7, least := a, most := (-1 : Int) }
                  simp only [Tok.cells, Tok.zero, Cl.zero] at FE
                  refine HQ.out _ _ ?_
                  refine tok_two (t := { Tok.zero with kind := 7, least := a, most := (-1 : Int) }) rfl FE.1 rfl rfl (RTok.mk_ ?_ ?_ FE.2)
                  all_goals (rw [HM'.out, HMID.out]; simp only; rw [HY.out, if_neg (by omega)]; simp [rtok, rend]; try (have := HK1'.out; have := HK1.out; omega))
            · have h125b : (y != 125) = true := by simpa using h125
              go_wp2_with fail
              all_goals (try (exfalso; omega))
              all_goals
                have FE := K0.out
                refine HQ.out _ _ ?_
                refine tok_two (t := Tok.zero) rfl FE.1 rfl rfl (RTok.mk_ ?_ ?_ FE.2)
                all_goals (rw [HM'.out, HMID.out]; simp only; rw [if_pos (.inl (by rw [HY.out]; exact h125))]; rfl)
          · have HY := Lib.hid (show byteAt p k1' = -1 by rw [byteAt_ge p k1' (by omega)])
            go_wp2_with fail
            all_goals (try (exfalso; omega))
            all_goals
              have FE := K0.out
              refine HQ.out _ _ ?_
              refine tok_two (t := Tok.zero) rfl FE.1 rfl rfl (RTok.mk_ ?_ ?_ FE.2)
              all_goals (rw [HM'.out, HMID.out]; simp only; rw [if_pos (.inl (by rw [HY.out]; decide))]; rfl)
        · obtain ⟨g1, g2, g3, g4, _⟩ := numM_facts p k1' k2 m hk1p hm
          have hk20 : ¬ (k2 : Int) ≤ 0 := by omega
          have hk21 : (0 : Int) < (k2 : Int) := by omega
          have HMm := Lib.hid hm
          have HMID := Lib.hid (show cntMid p a k1 = (m, k2) by unfold cntMid; rw [if_pos H44.out, ← HK1.out, HMm.out])
          clear hm
          go_upto_region 12 with (go_at_call 88; refine (rnum_any _ A c p k1' HR.out hs hk1p).mono ?_; rintro e w1 ⟨⟨a', b', rfl, ha, hb⟩, rfl⟩; rw [HMm.out] at ha hb; obtain rfl : a' = m := ha; obtain rfl : b' = k2 := hb)
          by_cases hl : k2 < p.length
          · obtain ⟨y, hy⟩ : ∃ y, (p[k2].toNat : Int) = y := ⟨_, rfl⟩
            obtain ⟨ad, rfl⟩ : ∃ ad, A = some ad := by obtain ⟨ad, e, _⟩ := HR.out.at_ hl; exact ⟨ad, e⟩
            have hb := RdB.cell_ HR.out ⟨hl, hy⟩
            have HY := Lib.hid (show byteAt p k2 = y by rw [byteAt_lt p k2 hl, hy])
            obtain ⟨K1, hK1⟩ : ∃ K1, K1 = k2 + 1 := ⟨_, rfl⟩
            have hvK : (k2 : Int) + 1 = (K1 : Int) := by omega
            have HK1' := Lib.hid hK1
            clear hy hK1
            by_cases h125 : y = 125
            · subst h125
              by_cases hlt : a' < a
              · by_cases hM0 : (0 : Int) ≤ a'
                · skip
                  go_wp2_with fail
                  all_goals (try (exfalso; omega))
                  all_goals
                    have FE := K0.out
                    refine HQ.out _ _ ?_
                    refine tok_two (t := Tok.zero) rfl FE.1 rfl rfl (RTok.mk_ ?_ ?_ FE.2)
                    all_goals (rw [HM'.out, HMID.out]; simp only; rw [if_pos (.inr ⟨hM0, hlt⟩)]; rfl)
                · skip
                  go_wp2_with fail
                  all_goals (try (exfalso; omega))
                  all_goals
                    have FE := KT.new w { Tok.zero with kind := 7, least := a, most := a' }
                    simp only [Tok.cells, Tok.zero, Cl.zero] at FE
                    refine HQ.out _ _ ?_
                    refine tok_two (t := { Tok.zero with kind := 7, least := a, most := a' }) rfl FE.1 rfl rfl (RTok.mk_ ?_ ?_ FE.2)
                    all_goals (rw [HM'.out, HMID.out]; simp only; rw [HY.out, if_neg (by omega)]; simp [rtok, rend]; try (have := HK1'.out; have := HK1.out; omega))
              · skip
                go_wp2_with fail
                all_goals (try (exfalso; omega))
                all_goals
                  have FE := KT.new w { Tok.zero with kind := 7, least := a, most := a' }
                  simp only [Tok.cells, Tok.zero, Cl.zero] at FE
                  refine HQ.out _ _ ?_
                  refine tok_two (t := { Tok.zero with kind := 7, least := a, most := a' }) rfl FE.1 rfl rfl (RTok.mk_ ?_ ?_ FE.2)
                  all_goals (rw [HM'.out, HMID.out]; simp only; rw [HY.out, if_neg (by omega)]; simp [rtok, rend]; try (have := HK1'.out; have := HK1.out; omega))
            · have h125b : (y != 125) = true := by simpa using h125
              go_wp2_with fail
              all_goals (try (exfalso; omega))
              all_goals
                have FE := K0.out
                refine HQ.out _ _ ?_
                refine tok_two (t := Tok.zero) rfl FE.1 rfl rfl (RTok.mk_ ?_ ?_ FE.2)
                all_goals (rw [HM'.out, HMID.out]; simp only; rw [if_pos (.inl (by rw [HY.out]; exact h125))]; rfl)
          · have HY := Lib.hid (show byteAt p k2 = -1 by rw [byteAt_ge p k2 (by omega)])
            go_wp2_with fail
            all_goals (try (exfalso; omega))
            all_goals
              have FE := K0.out
              refine HQ.out _ _ ?_
              refine tok_two (t := Tok.zero) rfl FE.1 rfl rfl (RTok.mk_ ?_ ?_ FE.2)
              all_goals (rw [HM'.out, HMID.out]; simp only; rw [if_pos (.inl (by rw [HY.out]; decide))]; rfl)
      · rw [show decide (byteAt p k1 = 44) = false from by simp [h44]]
        have HMID := Lib.hid (show cntMid p a k1 = (a, k1) by unfold cntMid; rw [if_neg h44])
        clear h44
        go_upto_region 12 with fail
        by_cases hl : k1 < p.length
        · obtain ⟨y, hy⟩ : ∃ y, (p[k1].toNat : Int) = y := ⟨_, rfl⟩
          obtain ⟨ad, rfl⟩ : ∃ ad, A = some ad := by obtain ⟨ad, e, _⟩ := HR.out.at_ hl; exact ⟨ad, e⟩
          have hb := RdB.cell_ HR.out ⟨hl, hy⟩
          have HY := Lib.hid (show byteAt p k1 = y by rw [byteAt_lt p k1 hl, hy])
          obtain ⟨K1, hK1⟩ : ∃ K1, K1 = k1 + 1 := ⟨_, rfl⟩
          have hvK : (k1 : Int) + 1 = (K1 : Int) := by omega
          have HK1' := Lib.hid hK1
          clear hy hK1
          by_cases h125 : y = 125
          · subst h125
            by_cases hlt : a < a
            · by_cases hM0 : (0 : Int) ≤ a
              · skip
                go_wp2_with fail
                all_goals (try (exfalso; omega))
                all_goals
                  have FE := K0.out
                  refine HQ.out _ _ ?_
                  refine tok_two (t := Tok.zero) rfl FE.1 rfl rfl (RTok.mk_ ?_ ?_ FE.2)
                  all_goals (rw [HM'.out, HMID.out]; simp only; rw [if_pos (.inr ⟨hM0, hlt⟩)]; rfl)
              · skip
                go_wp2_with fail
                all_goals (try (exfalso; omega))
                all_goals
                  have FE := KT.new w { Tok.zero with kind := 7, least := a, most := a }
                  simp only [Tok.cells, Tok.zero, Cl.zero] at FE
                  refine HQ.out _ _ ?_
                  refine tok_two (t := { Tok.zero with kind := 7, least := a, most := a }) rfl FE.1 rfl rfl (RTok.mk_ ?_ ?_ FE.2)
                  all_goals (rw [HM'.out, HMID.out]; simp only; rw [HY.out, if_neg (by omega)]; simp [rtok, rend]; try (have := HK1'.out; have := HK1.out; omega))
            · skip
              go_wp2_with fail
              all_goals (try (exfalso; omega))
              all_goals
                have FE := KT.new w { Tok.zero with kind := 7, least := a, most := a }
                simp only [Tok.cells, Tok.zero, Cl.zero] at FE
                refine HQ.out _ _ ?_
                refine tok_two (t := { Tok.zero with kind := 7, least := a, most := a }) rfl FE.1 rfl rfl (RTok.mk_ ?_ ?_ FE.2)
                all_goals (rw [HM'.out, HMID.out]; simp only; rw [HY.out, if_neg (by omega)]; simp [rtok, rend]; try (have := HK1'.out; have := HK1.out; omega))
          · have h125b : (y != 125) = true := by simpa using h125
            go_wp2_with fail
            all_goals (try (exfalso; omega))
            all_goals
              have FE := K0.out
              refine HQ.out _ _ ?_
              refine tok_two (t := Tok.zero) rfl FE.1 rfl rfl (RTok.mk_ ?_ ?_ FE.2)
              all_goals (rw [HM'.out, HMID.out]; simp only; rw [if_pos (.inl (by rw [HY.out]; exact h125))]; rfl)
        · have HY := Lib.hid (show byteAt p k1 = -1 by rw [byteAt_ge p k1 (by omega)])
          go_wp2_with fail
          all_goals (try (exfalso; omega))
          all_goals
            have FE := K0.out
            refine HQ.out _ _ ?_
            refine tok_two (t := Tok.zero) rfl FE.1 rfl rfl (RTok.mk_ ?_ ?_ FE.2)
            all_goals (rw [HM'.out, HMID.out]; simp only; rw [if_pos (.inl (by rw [HY.out]; decide))]; rfl)
end Go.Proofs.Ytkfjnllbjlndlaa
