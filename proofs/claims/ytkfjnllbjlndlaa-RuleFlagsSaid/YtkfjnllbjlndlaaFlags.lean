/- The law RuleFlags: walked. -/
import Derived.Test.YtkfjnllbjlndlaaBegun
import Derived.Test.YtkfjnllbjlndlaaFlE
import Derived.Deep.RegionWith
import Derived.BigQuiet
import Derived.Deep.RegionHeld3
namespace Go.Proofs.Ytkfjnllbjlndlaa
open Go.RowKit

theorem Fl.lets_size (f : Fl.F5) : (Fl.lets f).length ≤ 5 := by
  have := Fl.pre_size f 5
  simpa [Fl.pre, Fl.lets] using this

set_option maxRecDepth 100000 in
set_option maxHeartbeats 2000000 in
theorem ruleFlags_any (f : Fl.F5) (x : ByteArray) (hx : x.size ≤ 140737488351232) (w : World) :
    Calls Try.prog 3 #[f.v, .string x] w fun e w' => e = .returned (.bool true) ∧ Below w.heap.size w w' := by
  have h1 := fun W => parseFlags_any x hx W
  have h2 := fun W => refParseFlags_any x hx W
  have hpr : Fl.pf x.data.toList = Fl.res (Fl.rd x.data.toList 0 Fl.zero) := by
    rw [Fl.pf_eq]
    unfold Fl.res
    rfl
  rw [← hpr] at h2
  obtain ⟨⟨g, ok⟩, hg⟩ : ∃ q, q = Fl.pf x.data.toList := ⟨_, rfl⟩
  rw [← hg] at h1 h2
  clear hpr hg
  have H1 := Lib.hid h1
  have H2 := Lib.hid h2
  clear h1 h2
  have h3 := fun W => parseFlags_any ⟨(Fl.lets f).toArray⟩ (by have := Fl.lets_size f; show (Fl.lets f).toArray.size ≤ _; simp; omega) W
  simp only [List.toList_toArray, Fl.pf_lets] at h3
  have H3 := Lib.hid h3
  clear h3
  have q1 : ∀ W, (binOp .neq 23 (.agg #[.bool g.i, .bool g.s, .bool g.m, .bool g.o, .bool g.l]) (.agg #[.bool g.i, .bool g.s, .bool g.m, .bool g.o, .bool g.l])).run Try.prog W = .ok (.bool false) W := fun W => by have := neq_flags g g W; rw [Fl.F5.eq_self] at this; exact this
  have q2 : ∀ W, (binOp .eql 23 (.agg #[.bool f.i, .bool f.s, .bool f.m, .bool f.o, .bool f.l]) (.agg #[.bool f.i, .bool f.s, .bool f.m, .bool f.o, .bool f.l])).run Try.prog W = .ok (.bool true) W := fun W => by have := eql_flags f f W; rw [Fl.F5.eq_self] at this; exact this
  show Calls Try.prog 3 #[.agg #[.bool f.i, .bool f.s, .bool f.m, .bool f.o, .bool f.l], _] w _
  go_enter Try.func3, Try.ntmps3
  go_wp2_with (first | (go_at_call 8; refine (H1.out _).mono ?_; rintro e w1 ⟨rfl, hb1⟩; unfold Fl.F5.v; have HB1 := Lib.hid hb1; clear hb1) | (go_at_call 9; refine (H2.out _).mono ?_; rintro e w2 ⟨rfl, hb2⟩; unfold Fl.F5.v; have HB2 := Lib.hid hb2; clear hb2))
  have hb1 := HB1.out
  have hb2 := HB2.out
  have k0 : Bk (w.alloc (.cells f.cells 23)) w.heap.size 23 f.cells := Bk.new _ _ _
  have hs1 := hb1.size
  simp only [World.size_alloc] at hs1 hb1
  have kA := (k0.kept HB1.out).alloc (.cells g.cells 23)
  have kB := Bk.new w1 23 g.cells
  have k0' := (kA.kept HB2.out).alloc (.cells g.cells 23)
  have k1' := (kB.kept HB2.out).alloc (.cells g.cells 23)
  have k2' := Bk.new w2 23 g.cells
  have bb1 := (((Below.refl w.heap.size w).alloc (Nat.le_refl _) (.cells f.cells 23)).trans (hb1.mono (by omega))).alloc (by omega) (.cells g.cells 23)
  have bb2 := below_then bb1 HB2.out (by simp; omega)
  have bb := bb2.alloc (by have := bb2.size; omega) (.cells g.cells 23)
  clear hb1 hb2 k0 hs1 kA kB bb1 bb2
  simp only [Fl.F5.cells] at k0' k1' k2' bb
  obtain ⟨W3, hW3⟩ : ∃ W3, W3 = w2.alloc (.cells #[.bool g.i, .bool g.s, .bool g.m, .bool g.o, .bool g.l] 23) := ⟨_, rfl⟩
  rw [← hW3] at k0' k1' k2' bb ⊢
  clear hW3
  have a0 : W3.cell? ⟨w.heap.size, 0, none⟩ = some (.bool f.i) := cell_of k0' 0 _ rfl
  have a1 : W3.cell? ⟨w.heap.size, 1, none⟩ = some (.bool f.s) := cell_of k0' 1 _ rfl
  have a2 : W3.cell? ⟨w.heap.size, 2, none⟩ = some (.bool f.m) := cell_of k0' 2 _ rfl
  have a3 : W3.cell? ⟨w.heap.size, 3, none⟩ = some (.bool f.o) := cell_of k0' 3 _ rfl
  have a4 : W3.cell? ⟨w.heap.size, 4, none⟩ = some (.bool f.l) := cell_of k0' 4 _ rfl
  have b0 : W3.cell? ⟨w1.heap.size, 0, none⟩ = some (.bool g.i) := cell_of k1' 0 _ rfl
  have b1 : W3.cell? ⟨w1.heap.size, 1, none⟩ = some (.bool g.s) := cell_of k1' 1 _ rfl
  have b2 : W3.cell? ⟨w1.heap.size, 2, none⟩ = some (.bool g.m) := cell_of k1' 2 _ rfl
  have b3 : W3.cell? ⟨w1.heap.size, 3, none⟩ = some (.bool g.o) := cell_of k1' 3 _ rfl
  have b4 : W3.cell? ⟨w1.heap.size, 4, none⟩ = some (.bool g.l) := cell_of k1' 4 _ rfl
  have c0 : W3.cell? ⟨w2.heap.size, 0, none⟩ = some (.bool g.i) := cell_of k2' 0 _ rfl
  have c1 : W3.cell? ⟨w2.heap.size, 1, none⟩ = some (.bool g.s) := cell_of k2' 1 _ rfl
  have c2 : W3.cell? ⟨w2.heap.size, 2, none⟩ = some (.bool g.m) := cell_of k2' 2 _ rfl
  have c3 : W3.cell? ⟨w2.heap.size, 3, none⟩ = some (.bool g.o) := cell_of k2' 3 _ rfl
  have c4 : W3.cell? ⟨w2.heap.size, 4, none⟩ = some (.bool g.l) := cell_of k2' 4 _ rfl
  clear k0' k1' k2' HB1 HB2
  go_region_held3 (fun W => W.cell? ⟨w.heap.size, 0, none⟩ = some (.bool f.i) ∧ W.cell? ⟨w.heap.size, 1, none⟩ = some (.bool f.s) ∧ W.cell? ⟨w.heap.size, 2, none⟩ = some (.bool f.m) ∧ W.cell? ⟨w.heap.size, 3, none⟩ = some (.bool f.o) ∧ W.cell? ⟨w.heap.size, 4, none⟩ = some (.bool f.l) ∧ W.cell? ⟨w1.heap.size, 0, none⟩ = some (.bool g.i) ∧ W.cell? ⟨w1.heap.size, 1, none⟩ = some (.bool g.s) ∧ W.cell? ⟨w1.heap.size, 2, none⟩ = some (.bool g.m) ∧ W.cell? ⟨w1.heap.size, 3, none⟩ = some (.bool g.o) ∧ W.cell? ⟨w1.heap.size, 4, none⟩ = some (.bool g.l) ∧ W.cell? ⟨w2.heap.size, 0, none⟩ = some (.bool g.i) ∧ W.cell? ⟨w2.heap.size, 1, none⟩ = some (.bool g.s) ∧ W.cell? ⟨w2.heap.size, 2, none⟩ = some (.bool g.m) ∧ W.cell? ⟨w2.heap.size, 3, none⟩ = some (.bool g.o) ∧ W.cell? ⟨w2.heap.size, 4, none⟩ = some (.bool g.l) ∧ Below w.heap.size w W)
    ((go_split_ands; (repeat' apply And.intro) <;> first | assumption | exact Below.drew (by assumption) | exact cell_keep (by assumption) (by assumption) | exact below_keep (by assumption) (by assumption) (Nat.le_refl _)))
    (first | (go_at_call 10; refine (begun_any _).mono ?_; rintro e w' ⟨rfl, hb⟩) | (go_at_call 11; refine (flags_any f _).mono ?_; rintro e w' ⟨rfl, hb⟩) | (go_at_call 12; refine (refFlags_any f _).mono ?_; rintro e w' ⟨rfl, hb⟩))
  go_split_ands
  go_wp2_with (first | (go_at_call 11; refine (flags_any f _).mono ?_; rintro e w4 ⟨rfl, hb4⟩; have d0 := cell_keep hb4 (a := ⟨w.heap.size, 0, none⟩) (v := .bool f.i) (by assumption); have d1 := cell_keep hb4 (a := ⟨w.heap.size, 1, none⟩) (v := .bool f.s) (by assumption); have d2 := cell_keep hb4 (a := ⟨w.heap.size, 2, none⟩) (v := .bool f.m) (by assumption); have d3 := cell_keep hb4 (a := ⟨w.heap.size, 3, none⟩) (v := .bool f.o) (by assumption); have d4 := cell_keep hb4 (a := ⟨w.heap.size, 4, none⟩) (v := .bool f.l) (by assumption); have HB4 := Lib.hid hb4; clear hb4) | (go_at_call 8; refine (H3.out _).mono ?_; rintro e w5 ⟨rfl, hb5⟩; have e0 := fun o => Lib.cell?_alloc_some o (cell_keep hb5 d0); have e1 := fun o => Lib.cell?_alloc_some o (cell_keep hb5 d1); have e2 := fun o => Lib.cell?_alloc_some o (cell_keep hb5 d2); have e3 := fun o => Lib.cell?_alloc_some o (cell_keep hb5 d3); have e4 := fun o => Lib.cell?_alloc_some o (cell_keep hb5 d4); have HB5 := Lib.hid hb5; clear hb5; unfold Fl.F5.v))
  go_ret
  have hB4 := below_keep (by assumption) HB4.out (Nat.le_refl _)
  have hB5 := below_keep hB4 HB5.out (Nat.le_refl _)
  exact ⟨rfl, hB5.alloc hB5.size _⟩
end Go.Proofs.Ytkfjnllbjlndlaa
