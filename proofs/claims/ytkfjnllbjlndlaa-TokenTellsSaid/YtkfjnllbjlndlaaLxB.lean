/- The lexer's coded. -/
import Derived.Test.YtkfjnllbjlndlaaTok
namespace Go.Proofs.Ytkfjnllbjlndlaa
open Go.RowKit

/-- What a reader answers: a token, and where it has come; or false. -/
def TokRes (w' : World) (g B : Nat) (A : Option Addr) (c : Nat) (p : List UInt8) (o : Option (Tok × Nat)) (e : Ending) : Prop :=
  match o with
  | some (t, k') => e = .returned (.tuple #[t.v, .bool true]) ∧ Lx w' g B A c p k'
  | none => ∃ (t : Tok) (k' : Nat), e = .returned (.tuple #[t.v, .bool false]) ∧ Lx w' g B A c p k'

/-- A function's own token (its result's cells) beside the lexer. -/
structure Fr (w W : World) (g B : Nat) (A : Option Addr) (c : Nat) (p : List UInt8) (k : Nat) (cs : Array Value) : Prop where
  l : Lx W g B A c p k
  z : Bk W w.heap.size 49 cs
  o : Only g w W
  ne : g < w.heap.size
theorem Fr.new {w : World} {g B c k : Nat} {A : Option Addr} {p : List UInt8} (h : Lx w g B A c p k) (cs : Array Value) : Fr w (w.alloc (.cells cs 49)) g B A c p k cs :=
  ⟨h.alloc _, Bk.new w _ cs, (Only.refl g w).alloc _, h.x.lt⟩
theorem Fr.drewN {w W : World} {g B c k : Nat} {A : Option Addr} {p : List UInt8} {cs : Array Value} (h : Fr w W g B A c p k cs) (n : Nat) : Fr w (W.drewN n) g B A c p k cs := ⟨h.l.drewN n, h.z.drewN n, h.o.drewN n, h.ne⟩
theorem Fr.drew {w W : World} {g B c k : Nat} {A : Option Addr} {p : List UInt8} {cs : Array Value} (h : Fr w W g B A c p k cs) : Fr w W.drew g B A c p k cs := ⟨h.l.drew, h.z.drew, h.o.drew, h.ne⟩
theorem Fr.quiet {w W W' : World} {g B c k : Nat} {A : Option Addr} {p : List UInt8} {cs : Array Value} (h : Fr w W g B A c p k cs) (hq : ∃ m, W' = W.drewN m) : Fr w W' g B A c p k cs := by obtain ⟨m, rfl⟩ := hq; exact h.drewN m
theorem Fr.kept {w W W' : World} {g B c k : Nat} {A : Option Addr} {p : List UInt8} {cs : Array Value} (h : Fr w W g B A c p k cs) (hb : Below W.heap.size W W') : Fr w W' g B A c p k cs := ⟨h.l.kept hb, h.z.kept hb, h.o.then_below hb, h.ne⟩
theorem Fr.only {w W W' : World} {g B c k k' : Nat} {A : Option Addr} {p : List UInt8} {cs : Array Value} (h : Fr w W g B A c p k cs) (ho : Only g W W') (hl : Lx W' g B A c p k') : Fr w W' g B A c p k' cs :=
  ⟨hl, h.z.grown ho (by intro e; injection e with e; have := h.ne; omega), h.o.trans ho, h.ne⟩
theorem Fr.step {w W : World} {g B c k : Nat} {A : Option Addr} {p : List UInt8} {cs : Array Value} (h : Fr w W g B A c p k cs) (k' : Nat) (hk : k' ≤ p.length) : Fr w (W.setCell ⟨g, 1, none⟩ (.int .i64 k')) g B A c p k' cs :=
  h.only (h.l.step k' hk).2 (h.l.step k' hk).1
theorem Fr.fin {w W : World} {g B c k : Nat} {A : Option Addr} {p : List UInt8} {cs : Array Value} (h : Fr w W g B A c p k cs) {t : Tok} (hl : cs.size = 11 := by rfl) :
    Fr w (setN W w.heap.size 0 t.list) g B A c p k t.cells := by
  have hb : Below w.heap.size W (setN W w.heap.size 0 t.list) := below_setN _ (Below.refl _ _) 0 (Nat.le_refl _)
  have hB : B ≤ w.heap.size := by have := h.l.le; have := h.ne; omega
  exact ⟨⟨h.l.x.farN _ 0 (by have := h.ne; omega), Reads.below h.l.r (hb.mono hB), h.l.le, h.l.small, h.l.at_⟩, h.z.putN t.list hl, h.o.setN _ 0 (.inr (Nat.le_refl _)), h.ne⟩

theorem tok_cells {W : World} {z : Nat} {t : Tok} (hz : Bk W z 49 t.cells) : ∀ i, W.cell? ⟨z, i, none⟩ = (#[.int .i64 t.kind, .int .u8 t.byte, .int .u64 t.cls.a, .int .u64 t.cls.b, .int .u64 t.cls.c, .int .u64 t.cls.d, .bool t.not_, .int .i64 t.least, .int .i64 t.most, .bool t.lazy, .int .i64 t.at_] : Array Value)[i]? := hz.cells
theorem tok_end {fn : Func} {Q : Ending → World → Prop} {tmps : Array Value} {W : World} {z : Nat} {t : Tok} {b : Bool} (hr : fn.results = #[.cell 2 49, .tmp 3]) (hz : Bk W z 49 t.cells)
    (h2 : tmps[2]?.getD undef = .pointer (some ⟨z, 0, none⟩)) (h3 : tmps[3]?.getD undef = .bool b) (hQ : Q (.returned (.tuple #[t.v, .bool b])) W) : bodyPost Try.prog fn Q Exit.ret { tmps := tmps, defers := [] } W := by
  have kc := tok_cells hz
  exact bodyPost_ret (v := .tuple #[t.v, .bool b]) (by simp [results, hr, go_sem, h2, h3, kc, Tok.v]) rfl hQ
theorem tok_end3 {fn : Func} {Q : Ending → World → Prop} {tmps : Array Value} {W : World} {z : Nat} {t : Tok} {a b : Int} (hr : fn.results = #[.cell 2 49, .tmp 3, .tmp 4]) (hz : Bk W z 49 t.cells)
    (h2 : tmps[2]?.getD undef = .pointer (some ⟨z, 0, none⟩)) (h3 : tmps[3]?.getD undef = .int .i64 a) (h4 : tmps[4]?.getD undef = .int .i64 b) (hQ : Q (.returned (.tuple #[t.v, .int .i64 a, .int .i64 b])) W) : bodyPost Try.prog fn Q Exit.ret { tmps := tmps, defers := [] } W := by
  have kc := tok_cells hz
  exact bodyPost_ret (v := .tuple #[t.v, .int .i64 a, .int .i64 b]) (by simp [results, hr, go_sem, h2, h3, h4, kc, Tok.v]) rfl hQ
theorem RdB.cell_ {w : World} {B : Nat} {ad : Addr} {bs : List UInt8} (h : RdB w B (some ad) bs) {k : Nat} {x : Int} (hk : ∃ h : k < bs.length, (bs[k].toNat : Int) = x) : w.cell? (ad.add k) = some (.int .u8 x) := by
  obtain ⟨hk, rfl⟩ := hk
  obtain ⟨ad', e, _, hb⟩ := h.at_ hk
  obtain rfl : ad = ad' := by injection e
  exact hb
theorem TokRes.mk_ {w' : World} {g B : Nat} {A : Option Addr} {c : Nat} {p : List UInt8} {o : Option (Tok × Nat)} {t : Tok} {k' : Nat} {b : Bool} (ho : o = if b then some (t, k') else none) (hl : Lx w' g B A c p k') :
    TokRes w' g B A c p o (.returned (.tuple #[t.v, .bool b])) := by
  subst ho
  cases b with
  | true => exact ⟨rfl, hl⟩
  | false => exact ⟨t, k', rfl, hl⟩
theorem nib_range (x : Int) (v : Int) (h : nibM x = some v) : 0 ≤ v ∧ v ≤ 15 := by
  unfold nibM at h
  repeat' split at h
  all_goals first | (cases h; omega) | cases h

theorem wrap_id (x : Int) (h0 : 0 ≤ x) (h1 : x < 9223372036854775808) : IntKind.i64.wrap x = x := by rw [IntKind.wrap_i64]; omega
theorem q0 {P : Program} {f : FuncId} {args : Array Value} {w : World} {n : Nat} {v : Value} (h : ∀ W : World, Calls P f args W fun e w' => e = .returned v ∧ W = w') :
    Calls P f args (w.drewN n) fun e w'' => e = .returned v ∧ ∃ m, w'' = w.drewN m := (h _).mono fun _ _ h => ⟨h.1, n, h.2.symm⟩
theorem qa {P : Program} {f : FuncId} {args : Array Value} {w : World} {a n : Nat} {v : Value} (h : ∀ W : World, Calls P f args W fun e w' => e = .returned v ∧ W = w') :
    Calls P f args (w.drewN (a + n)) fun e w'' => e = .returned v ∧ ∃ m, w'' = w.drewN (a + m) := (h _).mono fun _ _ h => ⟨h.1, n, h.2.symm⟩

theorem nib_or (a b : Int) (h : 0 ≤ a ∧ a ≤ 15) (h' : 0 ≤ b ∧ b ≤ 15) : bits .or .u8 (a * 16 % 256) b = 16 * a + b := by
  obtain ⟨n, rfl⟩ := Int.eq_ofNat_of_zero_le h.1
  obtain ⟨m, rfl⟩ := Int.eq_ofNat_of_zero_le h'.1
  have key : ∀ n m : Fin 16, bits .or .u8 (((n : Nat) : Int) * 16 % 256) ((m : Nat) : Int) = 16 * ((n : Nat) : Int) + ((m : Nat) : Int) := by decide +kernel
  exact key ⟨n, by omega⟩ ⟨m, by omega⟩

theorem hex_end (x y : Int) (k2 : Nat) (b : Bool) (hb : b = ((nibM x).isSome && (nibM y).isSome)) :
    (match nibM x, nibM y with | some h, some l => some (Tok.ofByte (16 * h + l), k2) | _, _ => none) = if b then some (Tok.ofByte (bits .or .u8 ((nibM x).getD 0 * 16 % 256) ((nibM y).getD 0)), k2) else none := by
  subst hb
  rcases hx : nibM x with _ | a
  · rfl
  · rcases hy : nibM y with _ | b
    · rfl
    · simp only [Option.getD_some, Option.isSome_some, Bool.and_self, if_true]
      rw [nib_or a b (nib_range x a hx) (nib_range y b hy)]

set_option maxRecDepth 100000 in
set_option maxHeartbeats 1000000 in
theorem coded_any (w : World) (g B : Nat) (A : Option Addr) (c : Nat) (p : List UInt8) (k : Nat) (h : Lx w g B A c p k) :
    Calls Try.prog 58 #[.pointer (some ⟨g, 0, none⟩)] w fun e w' => TokRes w' g B A c p (hexM p k) e ∧ Only g w w' := by
  have H := Lib.hid h
  have hs := h.small
  have hk := h.at_
  have hne := h.x.lt
  by_cases hm : k + 1 < p.length
  · obtain ⟨ad, rfl⟩ : ∃ ad, A = some ad := by obtain ⟨ad, e, _⟩ := h.r.at_ (show k < p.length by omega); exact ⟨ad, e⟩
    obtain ⟨x, hx⟩ : ∃ x, x = ((p[k]).toNat : Int) := ⟨_, rfl⟩
    obtain ⟨y, hy⟩ : ∃ y, y = ((p[k + 1]).toNat : Int) := ⟨_, rfl⟩
    have hcell := fun o => (h.x.alloc o).cells
    have hM := Lib.hid (show hexM p k = match nibM x, nibM y with | some h, some l => some (Tok.ofByte (16 * h + l), k + 2) | _, _ => none from by rw [hx, hy, ← byteAt_lt p k (by omega), ← byteAt_lt p (k + 1) hm]; rfl)
    obtain ⟨r00, r01⟩ : 0 ≤ x ∧ x ≤ 255 := by have := (p[k]).toNat_lt; omega
    obtain ⟨r10, r11⟩ : 0 ≤ y ∧ y ≤ 255 := by have := (p[k + 1]).toNat_lt; omega
    have HD := Lib.hid (show decide (k + 1 < p.length) = true by simpa using hm)
    have hkB := Lib.hid (show ∃ h : k < p.length, (p[k].toNat : Int) = x from ⟨by omega, hx.symm⟩)
    obtain ⟨k1, hk1⟩ : ∃ k1, k1 = k + 1 := ⟨_, rfl⟩
    obtain ⟨k2, hk2⟩ : ∃ k2, k2 = k + 2 := ⟨_, rfl⟩
    have hmB := Lib.hid (show ∃ h : k1 < p.length, (p[k1].toNat : Int) = y from ⟨by omega, by subst hk1; exact hy.symm⟩)
    have hw1 : IntKind.i64.wrap ((k : Int) + 1) = (k1 : Int) := by rw [wrap_id _ (by omega) (by omega)]; omega
    have hw2 : IntKind.i64.wrap ((k : Int) + 2) = (k2 : Int) := by rw [wrap_id _ (by omega) (by omega)]; omega
    have hk' : k < p.length := by omega
    have hk1' : k1 < p.length := by omega
    have HK := Lib.hid hk2
    clear hk1 hk2 h hx hy
    go_enter Try.func58, Try.ntmps58
    go_wp2_with (go_at_call 42; refine (more_lit _ g B (some ad) c p k 1 true (H.out.alloc _) (by omega) HD.out).mono ?_; rintro e w1 ⟨rfl, hw⟩; have F := (Fr.new H.out Tok.zero.cells).quiet hw; clear hw; have hc1 := F.l.x.cells; have hf1 := F.l.x.frozens; have hz1 := F.z.cells; simp only [Tok.cells, Tok.zero, Cl.zero] at hz1; have hz2 := F.z.frozens; have hb0' := F.l.r.cell_ hkB.out; have hb1' := F.l.r.cell_ hmB.out; have FF := Lib.hid F; clear F hcell)
    go_quiet ((go_at_call 71; first | exact qa (fun W => nib_any x W r00 r01) | exact q0 (fun W => nib_any x W r00 r01)))
    go_wp2
    go_quiet ((go_at_call 71; first | exact qa (fun W => nib_any y W r10 r11) | exact q0 (fun W => nib_any y W r10 r11)))
    go_wp2
    all_goals
      have F2 := fun n => ((FF.out.drewN n).step k2 (by have := HK.out; omega)).fin (t := Tok.ofByte (bits .or .u8 ((nibM x).getD 0 * 16 % 256) ((nibM y).getD 0)))
      simp only [setN, Tok.list, Tok.ofByte, Tok.zero, Cl.zero, Nat.reduceAdd] at F2
      refine tok_end rfl (F2 _).z rfl rfl ⟨?_, (F2 _).o⟩
      refine TokRes.mk_ ?_ (F2 _).l
      rw [hM.out, ← HK.out]
      exact hex_end x y k2 _ (by simp_all)
  · have HD := Lib.hid (show decide (k + 1 < p.length) = false by simpa using hm)
    have hM : hexM p k = none := by
      have h1 : nibM (byteAt p (k + 1)) = none := by rw [byteAt_ge p (k + 1) (by omega)]; decide
      unfold hexM
      rw [h1]
      cases nibM (byteAt p k) <;> rfl
    have HM := Lib.hid hM
    clear h hm hM
    go_enter Try.func58, Try.ntmps58
    go_wp2_with (go_at_call 42; refine (more_lit _ g B A c p k 1 false (H.out.alloc _) (by omega) HD.out).mono ?_; rintro e w1 ⟨rfl, hw⟩; have F := (Fr.new H.out Tok.zero.cells).quiet hw; clear hw; have hz1 := F.z.cells; simp only [Tok.cells, Tok.zero, Cl.zero] at hz1; have hz2 := F.z.frozens; have FF := Lib.hid F; clear F)
    have F2 := FF.out.fin (t := Tok.zero)
    simp only [setN, Tok.list, Tok.zero, Cl.zero, Nat.reduceAdd] at F2
    refine tok_end rfl F2.z rfl rfl ⟨?_, F2.o⟩
    exact TokRes.mk_ HM.out F2.l
end Go.Proofs.Ytkfjnllbjlndlaa
