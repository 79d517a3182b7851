/- riddlelaw04.begun is true. -/
import Derived.Test.YtkfjnllbjlndlaaRdC
import Derived.Test.YtkfjnllbjlndlaaTkQ
import Derived.Lib.SlBytesConst
namespace Go.Proofs.Ytkfjnllbjlndlaa
open Go.RowKit

def bp : List UInt8 := [97, 123, 50, 44, 125, 63, 91, 94, 120, 45, 122, 93, 36]
def bt1 : Tok := { Tok.zero with kind := 7, least := 2, most := -1, lazy := true, at_ := 1 }
def bt3 : Tok := { Tok.zero with kind := 9, at_ := 12 }
theorem lex_begun : (lexR bp).1.length = 4 ∧ (lexR bp).2 = (13, 0) ∧ (lexR bp).1[1]? = some bt1 ∧ (lexR bp).1[3]? = some bt3 := by decide +kernel

set_option maxRecDepth 100000 in
set_option maxHeartbeats 1000000 in
theorem tbegun_any (w : World) : Calls Try.prog 18 #[] w fun e w' => e = .returned (.bool true) ∧ Below w.heap.size w w' := by
  have kc := fun (w : World) (C : Array Value) (n c : Nat) => Lib.run_convert_bytes_const (P := Try.prog) w 29 5 C n c Try.underlying29 Try.underlying5
  go_enter Try.func18, Try.ntmps18
  have hq1 : ∀ W, (binOp .eql 49 (.agg #[.int .i64 7, .int .u8 0, .int .u64 0, .int .u64 0, .int .u64 0, .int .u64 0, .bool false, .int .i64 2, .int .i64 (-1), .bool true, .int .i64 1]) (.agg #[.int .i64 7, .int .u8 0, .int .u64 0, .int .u64 0, .int .u64 0, .int .u64 0, .bool false, .int .i64 2, .int .i64 (-1), .bool true, .int .i64 1])).run Try.prog W = .ok (.bool true) W := fun W => by have := eql_tok bt1 bt1 W; rw [(Tok.eq_iff bt1 bt1).2 rfl] at this; exact this
  have hq3 : ∀ W, (binOp .eql 49 (.agg #[.int .i64 9, .int .u8 0, .int .u64 0, .int .u64 0, .int .u64 0, .int .u64 0, .bool false, .int .i64 0, .int .i64 0, .bool false, .int .i64 12]) (.agg #[.int .i64 9, .int .u8 0, .int .u64 0, .int .u64 0, .int .u64 0, .int .u64 0, .bool false, .int .i64 0, .int .i64 0, .bool false, .int .i64 12])).run Try.prog W = .ok (.bool true) W := fun W => by have := eql_tok bt3 bt3 W; rw [(Tok.eq_iff bt3 bt3).2 rfl] at this; exact this
  have HR := Lib.hid (RdB.lit w bp 5 (13, 14))
  obtain ⟨hl, h2, h3, h4⟩ := lex_begun
  have e1 : (lexR bp).2.1 = 13 := by rw [h2]
  have e2 : (lexR bp).2.2 = 0 := by rw [h2]
  go_wp2_with fail
  refine (lex_any _ _ _ bp (by rw [World.size_alloc]; exact HR.out)).mono ?_
  rintro e w1 ⟨⟨v, rfl, hown⟩, hb⟩
  rw [e1, e2]
  generalize (lexR bp).1 = L at *
  obtain ⟨g, cap, rfl, _, _⟩ := hown.form (by omega)
  rw [hl]
  have hcc : ∀ j u, (tcells L)[j]? = some u → w1.cell? ⟨g, j, none⟩ = some u := fun j u hj => add_off g j ▸ hown.cells (g := g) rfl j u hj
  have c1 := tok_at w1 g L 1 bt1 (by omega) (by rw [List.getElem?_eq_getElem (by omega)] at h3; injection h3) hcc
  have c3 := tok_at w1 g L 3 bt3 (by omega) (by rw [List.getElem?_eq_getElem (by omega)] at h4; injection h4) hcc
  have p0 := (show w1.cell? ⟨g, 11, none⟩ = some (.int .i64 7) from c1.1)
  have p1 := (show w1.cell? ⟨g, 12, none⟩ = some (.int .u8 0) from c1.2.1)
  have p2 := (show w1.cell? ⟨g, 13, none⟩ = some (.int .u64 0) from c1.2.2.1)
  have p3 := (show w1.cell? ⟨g, 14, none⟩ = some (.int .u64 0) from c1.2.2.2.1)
  have p4 := (show w1.cell? ⟨g, 15, none⟩ = some (.int .u64 0) from c1.2.2.2.2.1)
  have p5 := (show w1.cell? ⟨g, 16, none⟩ = some (.int .u64 0) from c1.2.2.2.2.2.1)
  have p6 := (show w1.cell? ⟨g, 17, none⟩ = some (.bool false) from c1.2.2.2.2.2.2.1)
  have p7 := (show w1.cell? ⟨g, 18, none⟩ = some (.int .i64 2) from c1.2.2.2.2.2.2.2.1)
  have p8 := (show w1.cell? ⟨g, 19, none⟩ = some (.int .i64 (-1)) from c1.2.2.2.2.2.2.2.2.1)
  have p9 := (show w1.cell? ⟨g, 20, none⟩ = some (.bool true) from c1.2.2.2.2.2.2.2.2.2.1)
  have p10 := (show w1.cell? ⟨g, 21, none⟩ = some (.int .i64 1) from c1.2.2.2.2.2.2.2.2.2.2)
  have r0 := (show w1.cell? ⟨g, 33, none⟩ = some (.int .i64 9) from c3.1)
  have r1 := (show w1.cell? ⟨g, 34, none⟩ = some (.int .u8 0) from c3.2.1)
  have r2 := (show w1.cell? ⟨g, 35, none⟩ = some (.int .u64 0) from c3.2.2.1)
  have r3 := (show w1.cell? ⟨g, 36, none⟩ = some (.int .u64 0) from c3.2.2.2.1)
  have r4 := (show w1.cell? ⟨g, 37, none⟩ = some (.int .u64 0) from c3.2.2.2.2.1)
  have r5 := (show w1.cell? ⟨g, 38, none⟩ = some (.int .u64 0) from c3.2.2.2.2.2.1)
  have r6 := (show w1.cell? ⟨g, 39, none⟩ = some (.bool false) from c3.2.2.2.2.2.2.1)
  have r7 := (show w1.cell? ⟨g, 40, none⟩ = some (.int .i64 0) from c3.2.2.2.2.2.2.2.1)
  have r8 := (show w1.cell? ⟨g, 41, none⟩ = some (.int .i64 0) from c3.2.2.2.2.2.2.2.2.1)
  have r9 := (show w1.cell? ⟨g, 42, none⟩ = some (.bool false) from c3.2.2.2.2.2.2.2.2.2.1)
  have r10 := (show w1.cell? ⟨g, 43, none⟩ = some (.int .i64 12) from c3.2.2.2.2.2.2.2.2.2.2)
  have HB := Lib.hid hb
  clear hb hown hcc c1 c3 h2 h3 h4 e1 e2 hl
  go_wp2
  go_ret
  have hb := HB.out
  rw [World.size_alloc] at hb
  exact ⟨rfl, ((Below.refl _ _).alloc (Nat.le_refl _) _).trans (hb.mono (by omega))⟩
end Go.Proofs.Ytkfjnllbjlndlaa
