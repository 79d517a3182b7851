/- The law RuleApart, walked: it answers true. -/
import Derived.Test.YtkfjnllbjlndlaaDoorRuP
import Derived.Test.YtkfjnllbjlndlaaDoorRuC
import Derived.Test.YtkfjnllbjlndlaaDoorBegun
import Derived.Deep.RegionHeld3
import Derived.Deep.CutRange
import Derived.Deep.CutBlock
namespace Go.Proofs.YtkfjnllbjlndlaaDoor
open Go.RowKit

/-- Both rules lie where they were boxed. -/
structure Ap (w : World) (a b : Ru) (A1 : Option Addr) (c1 : Nat) (A2 : Option Addr) (c2 : Nat) (W : World) : Prop where
  ba : Bk W w.heap.size 26 (a.cells A1 c1)
  bb : Bk W (w.heap.size + 1) 26 (b.cells A2 c2)
  bel : Below w.heap.size w W
theorem Ap.step {w W W' : World} {a b : Ru} {A1 : Option Addr} {c1 : Nat} {A2 : Option Addr} {c2 : Nat} (h : Ap w a b A1 c1 A2 c2 W) (hb : Below W.heap.size W W') : Ap w a b A1 c1 A2 c2 W' :=
  ⟨h.ba.kept hb, h.bb.kept hb, below_then h.bel hb h.bel.size⟩
theorem Ap.rd {w W : World} {a b : Ru} {A1 : Option Addr} {c1 : Nat} {A2 : Option Addr} {c2 : Nat} {A : Option Addr} {p : List UInt8} (h : Ap w a b A1 c1 A2 c2 W) (hr : RdB w w.heap.size A p) : RdB W W.heap.size A p := Reads.more (Reads.below hr h.bel) h.bel.size
abbrev ApC (w : World) (a b : Ru) (A1 : Option Addr) (c1 : Nat) (A2 : Option Addr) (c2 : Nat) (W : World) : Prop :=
    Ap w a b A1 c1 A2 c2 W ∧ (W.cell? ⟨w.heap.size, 0, none⟩ = some (.int .i64 a.id) ∧ W.cell? ⟨w.heap.size, 1, none⟩ = some (.bool a.f.i) ∧ W.cell? ⟨w.heap.size, 2, none⟩ = some (.bool a.f.s) ∧ W.cell? ⟨w.heap.size, 3, none⟩ = some (.bool a.f.m) ∧ W.cell? ⟨w.heap.size, 4, none⟩ = some (.bool a.f.o) ∧ W.cell? ⟨w.heap.size, 5, none⟩ = some (.bool a.f.l) ∧ W.cell? ⟨w.heap.size, 6, none⟩ = some (.slice A1 a.p.length c1)) ∧
    (W.cell? ⟨w.heap.size + 1, 0, none⟩ = some (.int .i64 b.id) ∧ W.cell? ⟨w.heap.size + 1, 1, none⟩ = some (.bool b.f.i) ∧ W.cell? ⟨w.heap.size + 1, 2, none⟩ = some (.bool b.f.s) ∧ W.cell? ⟨w.heap.size + 1, 3, none⟩ = some (.bool b.f.m) ∧ W.cell? ⟨w.heap.size + 1, 4, none⟩ = some (.bool b.f.o) ∧ W.cell? ⟨w.heap.size + 1, 5, none⟩ = some (.bool b.f.l) ∧ W.cell? ⟨w.heap.size + 1, 6, none⟩ = some (.slice A2 b.p.length c2))
theorem Ap.all {w W : World} {a b : Ru} {A1 : Option Addr} {c1 : Nat} {A2 : Option Addr} {c2 : Nat} (h : Ap w a b A1 c1 A2 c2 W) : ApC w a b A1 c1 A2 c2 W :=
  ⟨h, same_cells h.ba, same_cells h.bb⟩

theorem Ap.next {w W W' : World} {a b : Ru} {A1 : Option Addr} {c1 : Nat} {A2 : Option Addr} {c2 : Nat} (hb : Below W.heap.size W W') (h : Ap w a b A1 c1 A2 c2 W) : ApC w a b A1 c1 A2 c2 W' := (h.step hb).all

theorem same_lit (w : World) (a b : Ru) (A1 A2 : Option Addr) (c1 c2 : Nat) (h1 : RdB w w.heap.size A1 a.p) (h2 : RdB w w.heap.size A2 b.p) :
    Calls Tryd.prog 11 #[.agg #[.int .i64 a.id, .bool a.f.i, .bool a.f.s, .bool a.f.m, .bool a.f.o, .bool a.f.l, .slice A1 a.p.length c1], .agg #[.int .i64 b.id, .bool b.f.i, .bool b.f.s, .bool b.f.m, .bool b.f.o, .bool b.f.l, .slice A2 b.p.length c2]] w fun e w' => e = .returned (.bool (a.same b)) ∧ Below w.heap.size w w' := same_any w a b A1 A2 c1 c2 h1 h2
theorem rsame_lit (w : World) (a b : Ru) (A1 A2 : Option Addr) (c1 c2 : Nat) (h1 : RdB w w.heap.size A1 a.p) (h2 : RdB w w.heap.size A2 b.p) :
    Calls Tryd.prog 12 #[.agg #[.int .i64 a.id, .bool a.f.i, .bool a.f.s, .bool a.f.m, .bool a.f.o, .bool a.f.l, .slice A1 a.p.length c1], .agg #[.int .i64 b.id, .bool b.f.i, .bool b.f.s, .bool b.f.m, .bool b.f.o, .bool b.f.l, .slice A2 b.p.length c2]] w fun e w' => e = .returned (.bool (a.same b)) ∧ Below w.heap.size w w' := rsame_any w a b A1 A2 c1 c2 h1 h2
theorem line_lit (w : World) (a : Ru) (A1 : Option Addr) (c1 : Nat) (h : RdB w w.heap.size A1 a.p) (ht : Tb w) :
    Calls Tryd.prog 13 #[.agg #[.int .i64 a.id, .bool a.f.i, .bool a.f.s, .bool a.f.m, .bool a.f.o, .bool a.f.l, .slice A1 a.p.length c1]] w fun e w' => (∃ v, e = .returned (.tuple #[v, .int .i64 a.chk]) ∧ (a.chk = 0 → w'.ownsRow w.heap.size 5 1 v a.line.length (bcells a.line)) ∧ (a.chk ≠ 0 → v = .slice none 0 0)) ∧ Below w.heap.size w w' := line_any w a A1 c1 h ht
theorem cloneR_lit (w : World) (a : Ru) (A1 : Option Addr) (c1 : Nat) (h : RdB w w.heap.size A1 a.p) (hn : a.p.length ≤ 140737488351232) :
    Calls Tryd.prog 15 #[.agg #[.int .i64 a.id, .bool a.f.i, .bool a.f.s, .bool a.f.m, .bool a.f.o, .bool a.f.l, .slice A1 a.p.length c1]] w fun e w' => (∃ A' c', e = .returned (a.v A' c') ∧ w'.ownsRow w.heap.size 5 1 (.slice A' a.p.length c') a.p.length (bcells a.p)) ∧ Below w.heap.size w w' := cloneR_any w a A1 c1 h hn

/-- A row of bytes, whichever. -/
def OwnU (W : World) (base : Nat) (v : Value) (n : Nat) : Prop := ∃ xs, W.ownsRow base 5 1 v n xs ∧ ∀ k, k < n → ∃ z, xs[k]? = some (.int .u8 z)
theorem OwnU.of_bytes {W : World} {base : Nat} {v : Value} {bs : List UInt8} (h : W.ownsRow base 5 1 v bs.length (bcells bs)) : OwnU W base v bs.length :=
  ⟨_, h, fun k hk => ⟨_, bcells_get bs k hk⟩⟩

set_option maxRecDepth 100000 in
set_option maxHeartbeats 4000000 in
theorem ruleApart_any (w : World) (a b : Ru) (A1 A2 : Option Addr) (c1 c2 : Nat) (h1 : RdB w w.heap.size A1 a.p) (h2 : RdB w w.heap.size A2 b.p) (hn : a.p.length ≤ 140737488351232) (ht : Tb w) :
    Calls Tryd.prog 3 #[a.v A1 c1, b.v A2 c2] w fun e w' => e = .returned (.bool true) ∧ Below w.heap.size w w' := by
  have H1 := Lib.hid h1
  have H2 := Lib.hid h2
  have HT := Lib.hid ht
  clear h1 h2 ht
  unfold Ru.v Ru.cells
  go_enter Tryd.func3, Tryd.ntmps3
  go_wp2
  obtain ⟨W, hW⟩ : ∃ W, W = (w.alloc (.cells (a.cells A1 c1) 26)).alloc (.cells (b.cells A2 c2) 26) := ⟨_, rfl⟩
  have hap : Ap w a b A1 c1 A2 c2 W := by
    rw [hW]
    exact ⟨(Bk.new w _ _).alloc _, Bk.at_new _ _ _ _ (by simp), ((Below.refl _ w).alloc (Nat.le_refl _) _).alloc (by simp) _⟩
  unfold Ru.cells at hW
  rw [← hW]
  clear hW
  have hall := hap.all
  obtain ⟨-, ⟨p0, p1, p2, p3, p4, p5, p6⟩, q0, q1, q2, q3, q4, q5, q6⟩ := hall
  go_region_held3 (fun W => Ap w a b A1 c1 A2 c2 W ∧ (W.cell? ⟨w.heap.size, 0, none⟩ = some (.int .i64 a.id) ∧ W.cell? ⟨w.heap.size, 1, none⟩ = some (.bool a.f.i) ∧ W.cell? ⟨w.heap.size, 2, none⟩ = some (.bool a.f.s) ∧ W.cell? ⟨w.heap.size, 3, none⟩ = some (.bool a.f.m) ∧ W.cell? ⟨w.heap.size, 4, none⟩ = some (.bool a.f.o) ∧ W.cell? ⟨w.heap.size, 5, none⟩ = some (.bool a.f.l) ∧ W.cell? ⟨w.heap.size, 6, none⟩ = some (.slice A1 a.p.length c1)) ∧
    (W.cell? ⟨w.heap.size + 1, 0, none⟩ = some (.int .i64 b.id) ∧ W.cell? ⟨w.heap.size + 1, 1, none⟩ = some (.bool b.f.i) ∧ W.cell? ⟨w.heap.size + 1, 2, none⟩ = some (.bool b.f.s) ∧ W.cell? ⟨w.heap.size + 1, 3, none⟩ = some (.bool b.f.m) ∧ W.cell? ⟨w.heap.size + 1, 4, none⟩ = some (.bool b.f.o) ∧ W.cell? ⟨w.heap.size + 1, 5, none⟩ = some (.bool b.f.l) ∧ W.cell? ⟨w.heap.size + 1, 6, none⟩ = some (.slice A2 b.p.length c2)))
    (first | exact hap.all | exact (hap.step ((Below.refl _ _).drew)).all | (go_split_ands; exact Ap.next (by with_reducible assumption) (by with_reducible assumption)))
    (first | (go_at_call 10; refine (begun_any _).mono ?_; rintro e w2 ⟨rfl, hb⟩) | (go_at_call 11; first | ((with_reducible refine (same_lit _ a b A1 A2 c1 c2 ?_ ?_).mono ?_); (· exact Ap.rd (And.left (by with_reducible assumption)) H1.out); (· exact Ap.rd (And.left (by with_reducible assumption)) H2.out); rintro e w2 ⟨rfl, hb⟩) | ((with_reducible refine (same_lit _ a a A1 A1 c1 c1 ?_ ?_).mono ?_); (· exact Ap.rd (And.left (by with_reducible assumption)) H1.out); (· exact Ap.rd (And.left (by with_reducible assumption)) H1.out); rw [Ru.same_self]; rintro e w2 ⟨rfl, hb⟩)) | (go_at_call 12; (with_reducible refine (rsame_lit _ a b A1 A2 c1 c2 ?_ ?_).mono ?_); (· exact Ap.rd (And.left (by with_reducible assumption)) H1.out); (· exact Ap.rd (And.left (by with_reducible assumption)) H2.out); rintro e w2 ⟨rfl, hb⟩))
  have hap5 : Ap w a b A1 c1 A2 c2 w2 := And.left (by with_reducible assumption)
  obtain ⟨W5, hW5⟩ : ∃ W5, W5 = w2 := ⟨_, rfl⟩
  rw [← hW5] at hap5 ⊢
  clear hW5 p0 p1 p2 p3 p4 p5 p6 q0 q1 q2 q3 q4 q5 q6
  obtain ⟨-, ⟨p0, p1, p2, p3, p4, p5, p6⟩, q0, q1, q2, q3, q4, q5, q6⟩ := hap5.all
  obtain ⟨ea, hea⟩ : ∃ ea, ea = a.chk := ⟨_, rfl⟩
  obtain ⟨eb, heb⟩ : ∃ eb, eb = b.chk := ⟨_, rfl⟩
  have HEA := Lib.hid hea
  have HEB := Lib.hid heb
  clear hea heb
  go_wp2_with (first | (go_at_call 13; (with_reducible refine (line_lit _ b A2 c2 (hap6.rd H2.out) (HT.out.on hap6.bel)).mono ?_); rintro e w7 ⟨⟨v7, rfl, ho7, hn7⟩, hb7⟩; have HO7 := Lib.hid ho7; have HN7 := Lib.hid hn7; have HB7 := Lib.hid hb7; have hap7 := hap6.step hb7; rw [← HEB.out]; clear p0 p1 p2 p3 p4 p5 p6 q0 q1 q2 q3 q4 q5 q6 hb7 ho7 hn7; obtain ⟨-, ⟨p0, p1, p2, p3, p4, p5, p6⟩, q0, q1, q2, q3, q4, q5, q6⟩ := hap7.all) | (go_at_call 13; (with_reducible refine (line_lit _ a A1 c1 (hap5.rd H1.out) (HT.out.on hap5.bel)).mono ?_); rintro e w6 ⟨⟨v6, rfl, ho6, hn6⟩, hb6⟩; have HO6 := Lib.hid ho6; have HN6 := Lib.hid hn6; have HB6 := Lib.hid hb6; have hap6 := hap5.step hb6; rw [← HEA.out]; clear p0 p1 p2 p3 p4 p5 p6 q0 q1 q2 q3 q4 q5 q6 hb6 ho6 hn6; obtain ⟨-, ⟨p0, p1, p2, p3, p4, p5, p6⟩, q0, q1, q2, q3, q4, q5, q6⟩ := hap6.all))
  go_cut [52] from 38 to 52 (fun s52 wx => s52 = .bool false ∧ Ap w a b A1 c1 A2 c2 wx)
  case first =>
    have hap := hap7
    by_cases ha0 : ea = 0
    · by_cases hb0 : eb = 0
      · subst ha0 hb0
        obtain ⟨A6, n6, rfl⟩ := own_slice (HO6.out HEA.out.symm)
        obtain ⟨A7, n7, rfl⟩ := own_slice (HO7.out HEB.out.symm)
        have HQ6 := Lib.hid (own_below (HO6.out HEA.out.symm) HB7.out)
        have HQ7 := Lib.hid (HO7.out HEB.out.symm)
        have R6 : RdB w7.drew w7.heap.size A6 a.line := Reads.drew (own_reads HQ6.out)
        have R7 : RdB w7.drew w7.heap.size A7 b.line := Reads.drew (own_reads HQ7.out)
        have HLS := Lib.hid (line_same a b HEA.out.symm HEB.out.symm)
        go_region_held3 (fun W => Ap w a b A1 c1 A2 c2 W ∧ (W.cell? ⟨w.heap.size, 0, none⟩ = some (.int .i64 a.id) ∧ W.cell? ⟨w.heap.size, 1, none⟩ = some (.bool a.f.i) ∧ W.cell? ⟨w.heap.size, 2, none⟩ = some (.bool a.f.s) ∧ W.cell? ⟨w.heap.size, 3, none⟩ = some (.bool a.f.m) ∧ W.cell? ⟨w.heap.size, 4, none⟩ = some (.bool a.f.o) ∧ W.cell? ⟨w.heap.size, 5, none⟩ = some (.bool a.f.l) ∧ W.cell? ⟨w.heap.size, 6, none⟩ = some (.slice A1 a.p.length c1)) ∧
        (W.cell? ⟨w.heap.size + 1, 0, none⟩ = some (.int .i64 b.id) ∧ W.cell? ⟨w.heap.size + 1, 1, none⟩ = some (.bool b.f.i) ∧ W.cell? ⟨w.heap.size + 1, 2, none⟩ = some (.bool b.f.s) ∧ W.cell? ⟨w.heap.size + 1, 3, none⟩ = some (.bool b.f.m) ∧ W.cell? ⟨w.heap.size + 1, 4, none⟩ = some (.bool b.f.o) ∧ W.cell? ⟨w.heap.size + 1, 5, none⟩ = some (.bool b.f.l) ∧ W.cell? ⟨w.heap.size + 1, 6, none⟩ = some (.slice A2 b.p.length c2)))
          (first | exact hap.all | exact (hap.step ((Below.refl _ _).drew)).all | assumption | (go_split_ands; exact Ap.next (by with_reducible assumption) (by with_reducible assumption)))
          (first | (go_at_call 14; (with_reducible refine (equalB_any _ w7.heap.size w7.heap.size A6 A7 n6 n7 a.line b.line R6 R7).mono ?_); rw [HLS.out]; rintro e w8 ⟨rfl, rfl⟩) | (go_at_call 11; (with_reducible refine (same_lit _ a b A1 A2 c1 c2 ?_ ?_).mono ?_); (· exact Ap.rd (And.left (by with_reducible assumption)) H1.out); (· exact Ap.rd (And.left (by with_reducible assumption)) H2.out); rintro e w2 ⟨rfl, hb⟩))
        go_wp2
        go_meet
        exact ⟨rfl, And.left (by with_reducible assumption)⟩
      · have hd1 : (eb == 0) = false := beq_eq_false_iff_ne.2 hb0
        subst ha0
        go_quiet (fail)
        go_wp2
        go_meet
        exact ⟨rfl, hap7.step (below_drewN' (Below.refl _ _) nq)⟩
    · have hd1 : (ea == 0) = false := beq_eq_false_iff_ne.2 ha0
      go_quiet (fail)
      go_wp2
      go_meet
      exact ⟨rfl, hap7.step (below_drewN' (Below.refl _ _) nq)⟩
  case rest =>
    obtain ⟨rfl, hap8⟩ := hcut
    clear hap5 hap6 hap7 HO6 HO7 HN6 HN7 HB6 HB7 HEA HEB p0 p1 p2 p3 p4 p5 p6 q0 q1 q2 q3 q4 q5 q6
    obtain ⟨-, ⟨p0, p1, p2, p3, p4, p5, p6⟩, q0, q1, q2, q3, q4, q5, q6⟩ := hap8.all
    go_wp2_with (first | (go_at_call 12; (with_reducible refine (rsame_lit _ a a A1 A' c1 c' ((hap9.step ((Below.refl w9.heap.size w9).alloc (Nat.le_refl _) _)).rd H1.out) (RD9 _)).mono ?_); rw [Ru.same_self]; rintro e w10 ⟨rfl, hb⟩; have hap10 := (hap9.step ((Below.refl w9.heap.size w9).alloc (Nat.le_refl _) _)).step hb; have HC := Lib.hid ((Bk.new w9 26 (a.cells A' c')).kept hb); have HO10 := Lib.hid (own_below (HO.out.alloc _) hb); have HB10 := Lib.hid (below_then ((Below.refl w9.heap.size w9).alloc (Nat.le_refl _) _) hb (by simp)); have k6 : w10.cell? ⟨w9.heap.size, 6, none⟩ = some (.slice A' a.p.length c') := HC.out.cells 6; clear hb p0 p1 p2 p3 p4 p5 p6) | (go_at_call 15; (with_reducible refine (cloneR_lit _ a A1 c1 (hap8.rd H1.out) hn).mono ?_); rintro e w9 ⟨⟨A', c', rfl, ho⟩, hb⟩; have HO := Lib.hid ho; have HB9 := Lib.hid hb; have RD9 : ∀ o, RdB (w9.alloc o) (w9.alloc o).heap.size A' a.p := fun o => own_reads (ho.alloc o); have hap9 := hap8.step hb; unfold Ru.v Ru.cells; clear p0 p1 p2 p3 p4 p5 p6 q0 q1 q2 q3 q4 q5 q6 hb ho; have hall := fun (o : Obj) => (hap9.step ((Below.refl w9.heap.size w9).alloc (Nat.le_refl _) o)).all; have p0 := fun o => (hall o).2.1.1; have p1 := fun o => (hall o).2.1.2.1; have p2 := fun o => (hall o).2.1.2.2.1; have p3 := fun o => (hall o).2.1.2.2.2.1; have p4 := fun o => (hall o).2.1.2.2.2.2.1; have p5 := fun o => (hall o).2.1.2.2.2.2.2.1; have p6 := fun o => (hall o).2.1.2.2.2.2.2.2; clear hall))
    have HU := Lib.hid (OwnU.of_bytes HO10.out)
    have HNE := Lib.hid (own_ne_new HO.out (Nat.le_refl _))
    have HS8 := Lib.hid hap8.bb.lt
    clear HO HO10 RD9 k6
    go_loopw [62] (fun q wr => ∃ (k : Nat), q = .int .i64 k ∧ k ≤ a.p.length ∧ Ap w a b A1 c1 A2 c2 wr ∧ Bk wr w9.heap.size 26 (a.cells A' c') ∧ OwnU wr wc.heap.size (.slice A' a.p.length c') a.p.length) (fun q _ => a.p.length - (intOf q).toNat)
    case atStart => exact ⟨0, rfl, Nat.zero_le _, hap10, HC.out, HU.out⟩
    case round =>
      obtain ⟨k, rfl, hk, hapR, hC, hU⟩ := hrel
      have HAP := Lib.hid hapR
      have HCR := Lib.hid hC
      have HUR := Lib.hid hU
      have k6 : wr.cell? ⟨w9.heap.size, 6, none⟩ = some (.slice A' a.p.length c') := hC.cells 6
      clear hapR hC hU hap10
      by_cases hl : k < a.p.length
      · obtain ⟨xs, hown, hz⟩ := HUR.out
        obtain ⟨z, hzk⟩ := hz k hl
        obtain ⟨g, cg, hv, hgb, hgl⟩ := hown.form (by omega)
        injection hv with e1 e2 e3
        subst e1 e3
        have hcell : wr.cell? ⟨g, k, none⟩ = some (.int .u8 z) := (hown.cellAt k (by omega)).trans hzk
        have hfro : wr.frozen? ⟨g, k, none⟩ = false := hown.frozenAt k
        have HOW := Lib.hid hown
        have HZ := Lib.hid hz
        clear hown hz hzk
        go_wp2
        have hne : g ≠ w9.heap.size := fun e => HNE.out (by rw [e]; rfl)
        have hs8 := HS8.out
        obtain ⟨hst, hgr⟩ := HOW.out.stored k (.int .u8 ((z + 1) % 256))
        refine ⟨⟨k + 1, by go_num, hl, ⟨HAP.out.ba.far (p := ⟨g, k, none⟩) (by simp; omega) _, HAP.out.bb.far (p := ⟨g, k, none⟩) (by simp; omega) _, HAP.out.bel.setCell (p := ⟨g, k, none⟩) (by simp; omega) _⟩, HCR.out.far (p := ⟨g, k, none⟩) (by simpa using fun e => hne e.symm) _, _, hst, fun j hj => ?_⟩, by simp only [intOf]; omega⟩
        by_cases e : j = k
        · subst e
          exact ⟨_, List.getElem?_set_self (by have := HOW.out.1; omega)⟩
        · obtain ⟨z', hz'⟩ := HZ.out j hj
          exact ⟨z', by rw [List.getElem?_set_ne (fun h => e h.symm)]; exact hz'⟩
      · have hap := HAP.out
        obtain ⟨-, ⟨p0, p1, p2, p3, p4, p5, p6⟩, q0, q1, q2, q3, q4, q5, q6⟩ := hap.all
        go_wp2
        go_region_held3 (fun W => Ap w a b A1 c1 A2 c2 W ∧ (W.cell? ⟨w.heap.size, 0, none⟩ = some (.int .i64 a.id) ∧ W.cell? ⟨w.heap.size, 1, none⟩ = some (.bool a.f.i) ∧ W.cell? ⟨w.heap.size, 2, none⟩ = some (.bool a.f.s) ∧ W.cell? ⟨w.heap.size, 3, none⟩ = some (.bool a.f.m) ∧ W.cell? ⟨w.heap.size, 4, none⟩ = some (.bool a.f.o) ∧ W.cell? ⟨w.heap.size, 5, none⟩ = some (.bool a.f.l) ∧ W.cell? ⟨w.heap.size, 6, none⟩ = some (.slice A1 a.p.length c1)) ∧
          (W.cell? ⟨w.heap.size + 1, 0, none⟩ = some (.int .i64 b.id) ∧ W.cell? ⟨w.heap.size + 1, 1, none⟩ = some (.bool b.f.i) ∧ W.cell? ⟨w.heap.size + 1, 2, none⟩ = some (.bool b.f.s) ∧ W.cell? ⟨w.heap.size + 1, 3, none⟩ = some (.bool b.f.m) ∧ W.cell? ⟨w.heap.size + 1, 4, none⟩ = some (.bool b.f.o) ∧ W.cell? ⟨w.heap.size + 1, 5, none⟩ = some (.bool b.f.l) ∧ W.cell? ⟨w.heap.size + 1, 6, none⟩ = some (.slice A2 b.p.length c2)))
          (first | exact hap.all | exact (hap.step ((Below.refl _ _).drew)).all | (go_split_ands; exact Ap.next (by with_reducible assumption) (by with_reducible assumption)))
          (first | (go_at_call 12; (with_reducible refine (rsame_lit _ a a A1 AN c1 cN (Ap.rd (And.left (by with_reducible assumption)) H1.out) RDN).mono ?_); rw [Ru.same_self]; rintro e w12 ⟨rfl, hb⟩) | (go_at_call 15; (with_reducible refine (cloneR_lit _ a A1 c1 (Ap.rd (And.left (by with_reducible assumption)) H1.out) hn).mono ?_); rintro e w11 ⟨⟨AN, cN, rfl, ho⟩, hb⟩; have RDN : RdB w11 w11.heap.size AN a.p := own_reads ho; clear ho; unfold Ru.v Ru.cells))
        have hapF : Ap w a b A1 c1 A2 c2 w12 := And.left (by with_reducible assumption)
        have HBF := Lib.hid hapF.bel
        clear hapF
        go_wp2
        go_ret
        exact ⟨rfl, HBF.out⟩
end Go.Proofs.YtkfjnllbjlndlaaDoor
