/- The lexer's small functions: more, digit, letter, nibble, comes. -/
import Derived.Test.YtkfjnllbjlndlaaCls
import Derived.Test.YtkfjnllbjlndlaaOwn
import Derived.Deep.QuietTactic
import Derived.BigQuiet
namespace Go.Proofs.Ytkfjnllbjlndlaa
open Go.RowKit

/-- The lexer x, its pattern p, and how far it was read. -/
structure Lx (w : World) (g B : Nat) (A : Option Addr) (c : Nat) (p : List UInt8) (k : Nat) : Prop where
  x : Bk w g 76 #[.slice A p.length c, .int .i64 k]
  r : RdB w B A p
  le : B ≤ g
  small : p.length ≤ 1024
  at_ : k ≤ p.length
theorem Lx.lt {w : World} {g B c k : Nat} {A : Option Addr} {p : List UInt8} (h : Lx w g B A c p k) : B ≤ w.heap.size := by have := h.x.lt; have := h.le; omega
theorem Lx.drewN {w : World} {g B c k : Nat} {A : Option Addr} {p : List UInt8} (h : Lx w g B A c p k) (n : Nat) : Lx (w.drewN n) g B A c p k := ⟨h.x.drewN n, Reads.drewN h.r n, h.le, h.small, h.at_⟩
theorem Lx.drew {w : World} {g B c k : Nat} {A : Option Addr} {p : List UInt8} (h : Lx w g B A c p k) : Lx w.drew g B A c p k := ⟨h.x, h.r, h.le, h.small, h.at_⟩
theorem Lx.alloc {w : World} {g B c k : Nat} {A : Option Addr} {p : List UInt8} (h : Lx w g B A c p k) (o : Obj) : Lx (w.alloc o) g B A c p k := ⟨h.x.alloc o, Reads.alloc h.r h.lt o, h.le, h.small, h.at_⟩
theorem Lx.kept {w w' : World} {g B c k : Nat} {A : Option Addr} {p : List UInt8} (h : Lx w g B A c p k) (hb : Below w.heap.size w w') : Lx w' g B A c p k := ⟨h.x.kept hb, Reads.below h.r (hb.mono h.lt), h.le, h.small, h.at_⟩
theorem Lx.go {w w' : World} {g B c k : Nat} {A : Option Addr} {p : List UInt8} (h : Lx w g B A c p k) (ho : Only g w w') (k' : Nat) (hk : k' ≤ p.length) (hx : Bk w' g 76 #[.slice A p.length c, .int .i64 k']) : Lx w' g B A c p k' :=
  ⟨hx, Reads.only h.r ho h.lt h.le, h.le, h.small, hk⟩
theorem Lx.step {w : World} {g B c k : Nat} {A : Option Addr} {p : List UInt8} (h : Lx w g B A c p k) (k' : Nat) (hk : k' ≤ p.length) : Lx (w.setCell ⟨g, 1, none⟩ (.int .i64 k')) g B A c p k' ∧ Only g w (w.setCell ⟨g, 1, none⟩ (.int .i64 k')) := by
  have ho : Only g w (w.setCell ⟨g, 1, none⟩ (.int .i64 k')) := (Only.refl g w).set (.inl rfl) _
  exact ⟨h.go ho k' hk (h.x.set 1 _), ho⟩

theorem or32 (x : Int) (h0 : 0 ≤ x) (h1 : x ≤ 255) : bits .or .u8 x 32 = x + 32 * (1 - x / 32 % 2) := by
  obtain ⟨n, rfl⟩ := Int.eq_ofNat_of_zero_le h0
  have hn : n < 256 := by omega
  have key : ∀ n : Fin 256, bits .or .u8 ((n : Nat) : Int) 32 = ((n : Nat) : Int) + 32 * (1 - ((n : Nat) : Int) / 32 % 2) := by decide +kernel
  exact key ⟨n, hn⟩

def digM (x : Int) : Bool := decide (48 ≤ x ∧ x ≤ 57)
def letM (x : Int) : Bool := decide ((65 ≤ x ∧ x ≤ 90) ∨ (97 ≤ x ∧ x ≤ 122))
def nibM (x : Int) : Option Int := if 48 ≤ x ∧ x ≤ 57 then some (x - 48) else if 97 ≤ x ∧ x ≤ 102 then some (x - 87) else if 65 ≤ x ∧ x ≤ 70 then some (x - 55) else none

theorem ret_bool {a b : Bool} (h : a = b) : Ending.returned (.bool a) = .returned (.bool b) := by rw [h]

set_option maxHeartbeats 1000000 in
theorem dig_any (x : Int) (w : World) (h0 : 0 ≤ x) (h1 : x ≤ 255) : Calls Try.prog 59 #[.int .u8 x] w fun e w' => e = .returned (.bool (digM x)) ∧ w = w' := by
  go_enter Try.func59, Try.ntmps59
  go_wp2
  all_goals
    go_ret
    exact ⟨ret_bool (by simp [digM]; try omega), rfl⟩

set_option maxHeartbeats 1000000 in
theorem let_any (x : Int) (w : World) (h0 : 0 ≤ x) (h1 : x ≤ 255) : Calls Try.prog 56 #[.int .u8 x] w fun e w' => e = .returned (.bool (letM x)) ∧ w = w' := by
  have ho := or32 x h0 h1
  go_enter Try.func56, Try.ntmps56
  go_wp2
  all_goals
    go_ret
    exact ⟨ret_bool (by rw [letM, Bool.eq_iff_iff]; simp; omega), rfl⟩

set_option maxHeartbeats 1000000 in
theorem nib_any (x : Int) (w : World) (h0 : 0 ≤ x) (h1 : x ≤ 255) : Calls Try.prog 71 #[.int .u8 x] w fun e w' => e = .returned (.tuple #[.int .u8 ((nibM x).getD 0), .bool (nibM x).isSome]) ∧ w = w' := by
  have ho := or32 x h0 h1
  by_cases hd : 48 ≤ x ∧ x ≤ 57
  · have hn : nibM x = some (x - 48) := if_pos hd
    have hdm : digM x = true := by simpa [digM] using hd
    rw [hn]
    obtain ⟨a1, a2⟩ := hd
    have HD := Lib.hid hdm
    clear hn hdm
    go_enter Try.func71, Try.ntmps71
    go_wp2_with (go_at_call 59; refine (dig_any x _ h0 h1).mono ?_; rintro e w1 ⟨rfl, rfl⟩; rw [HD.out])
    go_ret2
    exact ⟨rfl, rfl⟩
  · have hdm : digM x = false := by simpa [digM] using hd
    have HD := Lib.hid hdm
    clear hdm
    by_cases ha : 97 ≤ x ∧ x ≤ 102
    · have hn : nibM x = some (x - 87) := by rw [nibM, if_neg hd, if_pos ha]
      rw [hn]
      have h32 : bits .or .u8 x 32 = x := by omega
      clear hn hd ho
      go_enter Try.func71, Try.ntmps71
      go_wp2_with (go_at_call 59; refine (dig_any x _ h0 h1).mono ?_; rintro e w1 ⟨rfl, rfl⟩; rw [HD.out])
      go_ret2
      exact ⟨by rw [show x - 87 = x - 97 + 10 from by omega]; rfl, rfl⟩
    · by_cases hA : 65 ≤ x ∧ x ≤ 70
      · have hn : nibM x = some (x - 55) := by rw [nibM, if_neg hd, if_neg ha, if_pos hA]
        rw [hn]
        have h32 : bits .or .u8 x 32 = x + 32 := by omega
        clear hn hd ho ha
        go_enter Try.func71, Try.ntmps71
        go_wp2_with (go_at_call 59; refine (dig_any x _ h0 h1).mono ?_; rintro e w1 ⟨rfl, rfl⟩; rw [HD.out])
        go_ret2
        exact ⟨by rw [show x - 55 = x + 32 - 97 + 10 from by omega]; rfl, rfl⟩
      · have hn : nibM x = none := by rw [nibM, if_neg hd, if_neg ha, if_neg hA]
        rw [hn]
        have hy : ¬ (97 ≤ bits .or .u8 x 32 ∧ bits .or .u8 x 32 ≤ 102) := by omega
        clear hn ho
        go_enter Try.func71, Try.ntmps71
        go_wp2_with (go_at_call 59; refine (dig_any x _ h0 h1).mono ?_; rintro e w1 ⟨rfl, rfl⟩; rw [HD.out])
        all_goals first | (exfalso; omega) | (go_ret2; exact ⟨rfl, rfl⟩)

set_option maxHeartbeats 1000000 in
theorem more_any (w : World) (g B : Nat) (A : Option Addr) (c : Nat) (p : List UInt8) (k n : Nat) (h : Lx w g B A c p k) (hn : n ≤ 4) :
    Calls Try.prog 42 #[.pointer (some ⟨g, 0, none⟩), .int .i64 n] w fun e w' => e = .returned (.bool (decide (k + n < p.length))) ∧ ∃ m, w' = w.drewN m := by
  have hcell := h.x.cells
  have hs := h.small
  have hk := h.at_
  have hw : wrap64 ((k : Int) + (n : Int)) = (k : Int) + (n : Int) := by unfold wrap64; omega
  clear h
  go_enter Try.func42, Try.ntmps42
  go_wp2
  go_quiet (fail)
  go_wp2
  go_ret
  exact ⟨ret_bool (by rw [Bool.eq_iff_iff]; simp; omega), _, rfl⟩

theorem more_lit (w : World) (g B : Nat) (A : Option Addr) (c : Nat) (p : List UInt8) (k n : Nat) (b : Bool) (h : Lx w g B A c p k) (hn : n ≤ 4) (hb : decide (k + n < p.length) = b) :
    Calls Try.prog 42 #[.pointer (some ⟨g, 0, none⟩), .int .i64 n] w fun e w' => e = .returned (.bool b) ∧ ∃ m, w' = w.drewN m := by
  subst hb
  exact more_any w g B A c p k n h hn

set_option maxHeartbeats 1000000 in
theorem comes_yes (w : World) (g B : Nat) (A : Option Addr) (c : Nat) (p : List UInt8) (k : Nat) (x : Int) (h : Lx w g B A c p k) (hx : ∃ hk : k < p.length, (p[k].toNat : Int) = x) :
    Calls Try.prog 45 #[.pointer (some ⟨g, 0, none⟩), .int .u8 x] w fun e w' => e = .returned (.bool true) ∧ Lx w' g B A c p (k + 1) ∧ Only g w w' := by
  obtain ⟨hk, rfl⟩ := hx
  have hcell := h.x.cells
  have hfro := h.x.frozens
  have hs := h.small
  obtain ⟨ad, rfl, _, hb⟩ := h.r.at_ hk
  have H := Lib.hid h
  clear h
  go_enter Try.func45, Try.ntmps45
  go_wp2
  go_quiet ((go_at_call 42; exact Calls.quiet_of (more_any _ g B (some ad) c p k 0 (Lx.drewN H.out _) (by omega))))
  go_wp2
  go_ret
  have hst := (Lx.drewN H.out nq).step (k + 1) (by omega)
  rw [Int.natCast_add] at hst
  exact ⟨rfl, hst.1, ((Only.refl g w).drewN nq).trans hst.2⟩

set_option maxHeartbeats 1000000 in
theorem comes_no (w : World) (g B : Nat) (A : Option Addr) (c : Nat) (p : List UInt8) (k : Nat) (x : Int) (h : Lx w g B A c p k) (hx : ∀ hk : k < p.length, (p[k].toNat : Int) ≠ x) :
    Calls Try.prog 45 #[.pointer (some ⟨g, 0, none⟩), .int .u8 x] w fun e w' => e = .returned (.bool false) ∧ ∃ m, w' = w.drewN m := by
  have hcell := h.x.cells
  have hs := h.small
  have H := Lib.hid h
  by_cases hk : k < p.length
  · obtain ⟨ad, rfl, _, hb⟩ := h.r.at_ hk
    have hne : ((p[k].toNat : Int) == x) = false := by rw [beq_eq_false_iff_ne]; exact hx hk
    clear h hx
    go_enter Try.func45, Try.ntmps45
    go_wp2
    go_quiet ((go_at_call 42; exact Calls.quiet_of (more_any _ g B (some ad) c p k 0 (Lx.drewN H.out _) (by omega))))
    go_wp2
    go_ret
    exact ⟨rfl, _, rfl⟩
  · clear h hx
    have hd : decide (k + 0 < p.length) = false := by simpa using hk
    have HD := Lib.hid hd
    clear hd
    go_enter Try.func45, Try.ntmps45
    go_wp2
    go_quiet ((go_at_call 42; exact Calls.quiet_of (more_lit _ g B A c p k 0 false (Lx.drewN H.out _) (by omega) HD.out)))
    go_wp2
    go_ret
    exact ⟨rfl, _, rfl⟩
end Go.Proofs.Ytkfjnllbjlndlaa
