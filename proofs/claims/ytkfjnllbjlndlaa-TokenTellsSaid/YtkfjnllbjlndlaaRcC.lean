/- The reference's number. -/
import Derived.Test.YtkfjnllbjlndlaaRcB
namespace Go.Proofs.Ytkfjnllbjlndlaa
open Go.RowKit

def refL (p : List UInt8) : Nat → Nat → Int → Int × Nat
  | 0, k, n => (n, k)
  | f + 1, k, n => if digM (byteAt p k) = true ∧ n ≤ 1000 then refL p f (k + 1) (10 * n + (byteAt p k - 48)) else (n, k)
theorem refL_step (p : List UInt8) (k : Nat) (n : Int) (h : k < p.length) (hd : digM (byteAt p k) = true) (hn : n ≤ 1000) : refL p (p.length - k) k n = refL p (p.length - (k + 1)) (k + 1) (10 * n + (byteAt p k - 48)) := by
  obtain ⟨f, hf⟩ : ∃ f, p.length - k = f + 1 := ⟨p.length - k - 1, by omega⟩
  rw [hf, show p.length - (k + 1) = f from by omega, refL, if_pos ⟨hd, hn⟩]
theorem refL_stop (p : List UInt8) (k : Nat) (n : Int) (h : k < p.length → digM (byteAt p k) = false ∨ 1000 < n) : refL p (p.length - k) k n = (n, k) := by
  by_cases hk : k < p.length
  · obtain ⟨f, hf⟩ : ∃ f, p.length - k = f + 1 := ⟨p.length - k - 1, by omega⟩
    rw [hf, refL, if_neg]
    rintro ⟨h1, h2⟩
    rcases h hk with h | h
    · rw [h] at h1; cases h1
    · omega
  · rw [show p.length - k = 0 from by omega]; rfl
theorem numL_big (p : List UInt8) : ∀ (f k : Nat), (numL p f k 1001).1 = 1001
  | 0, _ => rfl
  | f + 1, k => by
    rw [numL]
    by_cases hd : digM (byteAt p k) = true
    · rw [if_pos hd]
      have h1 : 48 ≤ byteAt p k ∧ byteAt p k ≤ 57 := by simpa [digM] using hd
      rw [show min (10 * 1001 + (byteAt p k - 48)) 1001 = (1001 : Int) from by omega]
      exact numL_big p f (k + 1)
    · rw [if_neg hd]
theorem refL_num (p : List UInt8) : ∀ (f k : Nat) (n : Int), 0 ≤ n → n ≤ 1000 → (numL p f k n = refL p f k n ∧ (refL p f k n).1 ≤ 1000) ∨ (1000 < (numL p f k n).1 ∧ 1000 < (refL p f k n).1)
  | 0, _, n, _, h => .inl ⟨rfl, h⟩
  | f + 1, k, n, h0, h1 => by
    rw [numL, refL]
    by_cases hd : digM (byteAt p k) = true
    · have h2 : 48 ≤ byteAt p k ∧ byteAt p k ≤ 57 := by simpa [digM] using hd
      rw [if_pos hd, if_pos ⟨hd, h1⟩]
      by_cases hb : 10 * n + (byteAt p k - 48) ≤ 1000
      · rw [show min (10 * n + (byteAt p k - 48)) 1001 = 10 * n + (byteAt p k - 48) from by omega]
        exact refL_num p f (k + 1) _ (by omega) hb
      · right
        rw [show min (10 * n + (byteAt p k - 48)) 1001 = (1001 : Int) from by omega, numL_big]
        refine ⟨by omega, ?_⟩
        cases f with
        | zero => simp only [refL]; omega
        | succ f => rw [refL, if_neg (by omega)]; simp only; omega
    · rw [if_neg hd, if_neg (fun h => hd h.1)]
      exact .inl ⟨rfl, h1⟩
theorem numM_ref (p : List UInt8) (k m : Nat) (n : Int) (h : refL p (p.length - k) k 0 = (n, m)) : numM p k = if m = k ∨ 1000 < n ∨ (byteAt p k = 48 ∧ k + 1 < m) then none else some (n, m) := by
  unfold numM
  rcases refL_num p (p.length - k) k 0 (by omega) (by omega) with ⟨h1, h2⟩ | ⟨h1, h2⟩
  · rw [h1, h]
    simp only
    by_cases hc : m = k ∨ (byteAt p k = 48 ∧ k + 1 < m) ∨ 1000 < n
    · rw [if_pos hc, if_pos (by omega)]
    · rw [if_neg hc, if_neg (by omega)]
  · rw [h] at h2
    simp only at h2
    rw [if_pos (.inr (.inr h1)), if_pos (.inr (.inl h2))]

def numV (o : Option (Int × Nat)) : Int := match o with | some r => r.1 | none => 0
def numE (o : Option (Int × Nat)) : Int := match o with | some r => (r.2 : Int) | none => 0
theorem rnum_end (p : List UInt8) (k m : Nat) (n y a b : Int) (h : refL p (p.length - k) k 0 = (n, m)) (hy : byteAt p k = y)
    (hc : ((m = k ∨ 1000 < n ∨ (y = 48 ∧ k + 1 < m)) ∧ a = 0 ∧ b = 0) ∨ (¬ (m = k ∨ 1000 < n ∨ (y = 48 ∧ k + 1 < m)) ∧ a = n ∧ b = m)) : a = numV (numM p k) ∧ b = numE (numM p k) := by
  rw [numM_ref p k m n h, hy]
  rcases hc with ⟨hc, rfl, rfl⟩ | ⟨hc, rfl, rfl⟩
  · rw [if_pos hc]; exact ⟨rfl, rfl⟩
  · rw [if_neg hc]; exact ⟨rfl, rfl⟩

set_option maxRecDepth 100000 in
set_option maxHeartbeats 400000 in
theorem rnum_any (w : World) (A : Option Addr) (c : Nat) (p : List UInt8) (k : Nat) (hr : RdB w w.heap.size A p) (hs : p.length ≤ 1024) (hk : k ≤ p.length) :
    Calls Try.prog 88 #[.slice A p.length c, .int .i64 k] w fun e w' => (∃ a b, e = .returned (.tuple #[.int .i64 a, .int .i64 b]) ∧ a = numV (numM p k) ∧ b = numE (numM p k)) ∧ w = w' := by
  have HR := Lib.hid hr
  clear hr
  go_enter Try.func88, Try.ntmps88
  refine shut_post fun E0 HQ => ?_
  go_wp2
  go_loop [6, 7] (fun q r => ∃ (m : Nat) (n : Int), q = .int .i64 n ∧ r = .int .i64 m ∧ k ≤ m ∧ m ≤ p.length ∧ 0 ≤ n ∧ n ≤ 10009 ∧ refL p (p.length - m) m n = refL p (p.length - k) k 0) (fun _ r => p.length - (intOf r).toNat)
  case atStart => exact ⟨k, 0, rfl, rfl, Nat.le_refl _, hk, by omega, by omega, rfl⟩
  case round =>
    obtain ⟨m, n, rfl, rfl, hm, hm1, hn0, hn1, hnum⟩ := hrel
    have HN := Lib.hid hnum
    clear hnum
    by_cases hlt : m < p.length
    · obtain ⟨x, hx⟩ : ∃ x, (p[m].toNat : Int) = x := ⟨_, rfl⟩
      obtain ⟨hx0, hx1⟩ : 0 ≤ x ∧ x ≤ 255 := by have := (p[m]).toNat_lt; omega
      obtain ⟨ad, rfl⟩ : ∃ ad, A = some ad := by obtain ⟨ad, e, _⟩ := HR.out.at_ hlt; exact ⟨ad, e⟩
      have hb0 := RdB.cell_ HR.out ⟨hlt, hx⟩
      have HX := Lib.hid (show byteAt p m = x by rw [byteAt_lt p m hlt, hx])
      clear hx
      by_cases hd : digM x = true ∧ n ≤ 1000
      · obtain ⟨hd1, hd2⟩ := hd
        have HDD := Lib.hid hd1
        obtain ⟨hd3, hd4⟩ : 48 ≤ x ∧ x ≤ 57 := by simpa [digM] using hd1
        obtain ⟨m1, hm1e⟩ : ∃ m1, m1 = m + 1 := ⟨_, rfl⟩
        have hv1 : (m : Int) + 1 = (m1 : Int) := by omega
        have hw1 : IntKind.i64.wrap ((m : Int) + 1) = (m1 : Int) := by rw [wrap_id _ (by omega) (by omega)]; omega
        have HM := Lib.hid hm1e
        clear hd1 hm1e
        go_wp2_with (go_at_call 79; refine (rdig_any x _ hx0 hx1).mono ?_; rintro e w1 ⟨rfl, rfl⟩; rw [HDD.out])
        refine ⟨⟨m1, _, rfl, rfl, by omega, by omega, by omega, by omega, ?_⟩, by simp only [intOf]; omega⟩
        rw [← HN.out, refL_step p m n hlt (by rw [HX.out]; exact HDD.out) hd2, HX.out, HM.out]
      · have hend := refL_stop p m n (fun _ => by rw [HX.out]; rcases hb : digM x with _ | _; exact .inl rfl; exact .inr (by rcases Int.lt_or_le 1000 n with h | h; exact h; exact absurd ⟨hb, h⟩ hd))
        rw [HN.out] at hend
        have HE := Lib.hid hend
        clear hend
        have hk0 : k < p.length := by omega
        obtain ⟨y, hy⟩ : ∃ y, (p[k].toNat : Int) = y := ⟨_, rfl⟩
        have hb1 := RdB.cell_ HR.out ⟨hk0, hy⟩
        have HY := Lib.hid (show byteAt p k = y by rw [byteAt_lt p k hk0, hy])
        have hwk : IntKind.i64.wrap ((k : Int) + 1) = (k : Int) + 1 := wrap_id _ (by omega) (by omega)
        clear hy
        rcases hdd : digM x with _ | _
        · have HDD := Lib.hid hdd
          clear hd hdd
          go_wp2_with (go_at_call 79; refine (rdig_any x _ hx0 hx1).mono ?_; rintro e w1 ⟨rfl, rfl⟩; rw [HDD.out])
          all_goals
            refine HQ.out _ _ ?_
            go_ret2
            refine ⟨⟨_, _, rfl, ?_⟩, rfl⟩
            exact rnum_end p k m n y _ _ HE.out HY.out (by (try simp only [beq_iff_eq, beq_eq_false_iff_ne, ne_eq, and_true] at *); omega)
        · have HDD := Lib.hid hdd
          have hn2 : 1000 < n := by rcases Int.lt_or_le 1000 n with h | h; exact h; exact absurd ⟨hdd, h⟩ hd
          clear hd hdd
          go_wp2_with (go_at_call 79; refine (rdig_any x _ hx0 hx1).mono ?_; rintro e w1 ⟨rfl, rfl⟩; rw [HDD.out])
          all_goals
            refine HQ.out _ _ ?_
            go_ret2
            refine ⟨⟨_, _, rfl, ?_⟩, rfl⟩
            exact rnum_end p k m n y _ _ HE.out HY.out (by (try simp only [and_true] at *); omega)
    · have hend := refL_stop p m n (fun h => absurd h hlt)
      rw [HN.out] at hend
      have HE := Lib.hid hend
      clear hend
      by_cases hk0 : k < p.length
      · obtain ⟨y, hy⟩ : ∃ y, (p[k].toNat : Int) = y := ⟨_, rfl⟩
        obtain ⟨ad, rfl⟩ : ∃ ad, A = some ad := by obtain ⟨ad, e, _⟩ := HR.out.at_ hk0; exact ⟨ad, e⟩
        have hb1 := RdB.cell_ HR.out ⟨hk0, hy⟩
        have HY := Lib.hid (show byteAt p k = y by rw [byteAt_lt p k hk0, hy])
        have hwk : IntKind.i64.wrap ((k : Int) + 1) = (k : Int) + 1 := wrap_id _ (by omega) (by omega)
        clear hy
        go_wp2
        all_goals
          refine HQ.out _ _ ?_
          go_ret2
          refine ⟨⟨_, _, rfl, ?_⟩, rfl⟩
          exact rnum_end p k m n y _ _ HE.out HY.out (by (try simp only [beq_iff_eq, beq_eq_false_iff_ne, ne_eq, and_true] at *); omega)
      · have hmk : m = k := by omega
        subst hmk
        obtain ⟨y, hy⟩ : ∃ y, byteAt p m = y := ⟨_, rfl⟩
        have HY := Lib.hid hy
        clear hy
        go_wp2
        all_goals
          refine HQ.out _ _ ?_
          go_ret2
          refine ⟨⟨_, _, rfl, ?_⟩, rfl⟩
          first | exact rnum_end p m m n y _ _ HE.out HY.out (.inl ⟨.inl rfl, rfl, rfl⟩) | (exfalso; simp at *; done)
end Go.Proofs.Ytkfjnllbjlndlaa
