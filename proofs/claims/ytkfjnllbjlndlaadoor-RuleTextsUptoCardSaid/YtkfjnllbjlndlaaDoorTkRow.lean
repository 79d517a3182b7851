/- A slice of bytes that came in, as a list of bytes. -/
import Derived.Test.YtkfjnllbjlndlaaDoorMem
namespace Go.Proofs.YtkfjnllbjlndlaaDoor
open Go.RowKit

/-- What is known of a slice of numbers that came in: nil, or a row of 'cap' cells whose first 'len' are its elements. -/
def IsRow (k : IntKind) (w : World) (a : Option Addr) (len cap : Nat) (zs : List Int) : Prop :=
  (a = none ∧ len = 0 ∧ cap = 0 ∧ zs = []) ∨
  ∃ x, a = some x ∧ len ≤ cap ∧ cap ≤ maxLen ∧ zs.length = cap ∧ (∀ i, i < zs.length → w.cell? (x.add i) = some (.int k (zs.getD i 0))) ∧ ∀ n ∈ zs, (Lit.int k n).wf = true
theorem rdb_of_row {w : World} {a : Option Addr} {len cap : Nat} {zs : List Int} (h : IsRow .u8 w a len cap zs) : ∃ p : List UInt8, p.length = len ∧ RdB w w.heap.size a p := by
  rcases h with ⟨rfl, rfl, rfl, rfl⟩ | ⟨x, rfl, h1, h2, h3, h4, h5⟩
  · exact ⟨[], rfl, Reads.nil_ _ _ _ _⟩
  · have hlen : ((zs.take len).map fun n => UInt8.ofNat n.toNat).length = len := by simp; omega
    refine ⟨(zs.take len).map fun n => UInt8.ofNat n.toNat, hlen, ?_⟩
    refine ⟨by rw [bcells_length]; omega, fun hn => ?_⟩
    rw [hlen] at hn
    have hc0 := h4 0 (by omega)
    refine ⟨x, rfl, by have := World.block_lt_of_cell? w _ hc0; rwa [block_of_add] at this, fun j u hu => ?_⟩
    have hj : j < len := by have := (List.getElem?_eq_some_iff.1 hu).1; rw [bcells_length, hlen] at this; exact this
    rw [h4 j (by omega), ← hu]
    have hz : zs[j]? = some zs[j] := List.getElem?_eq_getElem (by omega)
    have hw := h5 zs[j] (List.getElem_mem _)
    have hr : 0 ≤ zs[j] ∧ zs[j] ≤ 255 := by
      simp [Lit.wf, IntKind.min, IntKind.max, IntKind.signed, IntKind.bits] at hw
      omega
    simp [bcells, hj, hz, List.getD_eq_getElem?_getD]
    omega
end Go.Proofs.YtkfjnllbjlndlaaDoor
