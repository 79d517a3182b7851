/- A slice of bytes that came in, where what is read is of bulk at most 1048576. -/
import Derived.Test.YtkfjnllbjlndlaaDoorRows
import Derived.Test.YtkfjnllbjlndlaaDoorRuE
namespace Go.Proofs.YtkfjnllbjlndlaaDoor
open Go.ChangeShapes Go.WideShapes Go.ChangeAt Go.RowKit

theorem bulk_one {H : Type} (d : DataW H) : 1 ≤ Rows.uptoBulk d := by
  cases d with
  | lit l => cases l <;> simp [Rows.uptoBulk]
  | _ => simp [Rows.uptoBulk]
theorem bulk_length {H : Type} (l : List (DataW H)) : l.length ≤ Rows.uptoBulkAll l := by
  induction l with
  | nil => simp [Rows.uptoBulkAll]
  | cons x r ih => have := bulk_one x; simp only [Rows.uptoBulkAll, List.length_cons]; omega
theorem bulk_part {H : Type} {d : DataW H} {l : List (DataW H)} (h : d ∈ l) : Rows.uptoBulk d ≤ Rows.uptoBulkAll l := by
  induction l with
  | nil => cases h
  | cons x r ih =>
    simp only [Rows.uptoBulkAll]
    rcases List.mem_cons.1 h with e | e
    · subst e; omega
    · have := ih e; omega

set_option maxRecDepth 100000 in
theorem open_bytesU {H : Type} {enc : TypeId × Value → H} {w : World} {b0 : Nat} {r : Reach} {v : Value} {d : DataW H} {p : List MemPlace}
    (hv : Value.okWide Tryd.prog w r b0 24 v) (h : DataW.Trod enc Tryd.prog w 0 (fun _ => true) true 24 v d p) (hb : Rows.uptoBulk d ≤ 1048576) :
    ∃ (T : List UInt8) (A : Option Addr) (c : Nat), v = .slice A T.length c ∧ RdB w w.heap.size A T ∧ T.length ≤ c ∧ T.length ≤ 1048576 := by
  obtain ⟨a0, len0, cap0, rfl⟩ := okWide_slice Tryd.underlying24 hv
  obtain ⟨fuel, hf⟩ := h
  rcases open_ints Tryd.underlying24 Tryd.underlying5 (by kernel_rfl) hf with ⟨hcs, _⟩ | ⟨ad, len, cap, ns, hcs, _, hl, hm, hz, hd, hcell, hwz⟩
  · simp [Value.cells] at hcs
    obtain ⟨rfl, rfl, rfl⟩ := hcs
    exact ⟨[], none, 0, rfl, Reads.nil_ _ _ _ _, by simp, by simp⟩
  · simp [Value.cells] at hcs
    obtain ⟨rfl, rfl, rfl⟩ := hcs
    have hzl : ns.length = cap0 := by simpa using hz
    obtain ⟨T, hp, hr⟩ := rdb_of_row (.inr ⟨ad, rfl, hl, hm, hzl, hcell, hwz⟩ : IsRow .u8 w (some ad) len0 cap0 ns)
    subst hp
    refine ⟨T, some ad, cap0, rfl, hr, hl, ?_⟩
    have hd1 := congrArg Prod.fst hd
    dsimp only at hd1
    rw [hd1] at hb
    simp only [Rows.uptoBulk] at hb
    have hb3 := bulk_length (lits (H := H) .u8 (ns.take T.length))
    simp only [lits, List.length_map, List.length_take] at hb hb3
    omega
end Go.Proofs.YtkfjnllbjlndlaaDoor
