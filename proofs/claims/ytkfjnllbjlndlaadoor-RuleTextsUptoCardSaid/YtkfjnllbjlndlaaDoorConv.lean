/- A row that a conversion of a string has laid (its end is marked), and append to it. No program in sight. -/
import Derived.Lib.ConvBytes
import Derived.Laws.AppendOwn
import Derived.Test.YtkfjnllbjlndlaaDoorInv
namespace Go.Proofs.YtkfjnllbjlndlaaDoor
open Go.RowKit

theorem run_storeCells_atE (P : Program) (g o : Nat) (t : TypeId) (fz : Nat × Nat) : ∀ (vs : List Value) (i : Nat) (cur : Array Value) (w : World), w.heap[g]? = some (.cells cur t fz) → cur.size ≤ fz.1 → o + i + vs.length ≤ cur.size → (∀ v ∈ vs, v.oneCell' = true) →
    (storeCells ⟨g, o, none⟩ vs i).run P w = .ok () (w.setRow g (cur.toList.take (o + i) ++ vs ++ cur.toList.drop (o + i + vs.length)).toArray)
  | [], i, cur, w, hg, _, _, _ => by
    simp only [storeCells, List.append_nil, List.length_nil, Nat.add_zero, List.take_append_drop, Array.toArray_toList]
    rw [setRow_self w g cur t fz hg]
    rfl
  | v :: rest, i, cur, w, hg, hfz, hl, h1 => by
    have hi : o + i < cur.size := by simp at hl; omega
    have hadd : (⟨g, o, none⟩ : Addr).add i = ⟨g, o + i, none⟩ := by unfold Addr.add; split <;> simp_all
    have hcell : w.cell? ⟨g, o + i, none⟩ = some cur[o + i] := by simp [World.cell?, hg, hi]
    have hfro : w.frozen? ⟨g, o + i, none⟩ = false := by
      obtain ⟨lo, hi'⟩ := fz
      simp only [World.frozen?, hg, Bool.and_eq_false_iff, decide_eq_false_iff_not]
      left
      simp only at hfz
      omega
    have hst : (store ((⟨g, o, none⟩ : Addr).add i) v).run P w = .ok () (w.setRow g (cur.setIfInBounds (o + i) v)) := by
      rw [hadd, run_store P w _ v _ (h1 v (by simp)), hcell]
      simp [hfro, setCell_eq_setRow w g (o + i) cur t fz v hg]
    have ih := run_storeCells_atE P g o t fz rest (i + 1) (cur.setIfInBounds (o + i) v) (w.setRow g (cur.setIfInBounds (o + i) v)) (setRow_heap w g cur _ t _ hg) (by simpa using hfz) (by simp at hl ⊢; omega) (fun x hx => h1 x (by simp [hx]))
    simp only [storeCells, Sem.run_bind, hst, Result.andThen_ok, ih, setRow_setRow]
    congr 3
    have e := list_seg_step cur.toList (o + i) v rest (by simp at hl ⊢; omega)
    simpa [Array.toList_setIfInBounds, Nat.add_assoc] using e

/-- A row of bytes that a conversion has laid. -/
def OwnC (w : World) (base : Nat) (e : TypeId) (v : Value) (xs : List Value) : Prop :=
  ∃ g cap cur, v = .slice (some ⟨g, 0, none⟩) xs.length cap ∧ base ≤ g ∧ w.heap[g]? = some (.cells cur e (cur.size, cur.size + 1)) ∧ xs.length ≤ cap ∧ cur.size = cap ∧ cur.toList.take xs.length = xs
theorem OwnC.below {w w' : World} {base : Nat} {e : TypeId} {v : Value} {xs : List Value} (h : OwnC w base e v xs) (hb : Below w.heap.size w w') : OwnC w' base e v xs := by
  obtain ⟨g, cap, cur, rfl, h1, h2, h3⟩ := h
  have hlt : g < w.heap.size := (Array.getElem?_eq_some_iff.1 h2).1
  exact ⟨g, cap, cur, rfl, h1, (hb.block g hlt).trans h2, h3⟩
theorem below_bytesWorld (w : World) (e : TypeId) (s : ByteArray) : Below w.heap.size w (Lib.bytesWorld w e s) :=
  ⟨rfl, rfl, rfl, by rw [Lib.bytesWorld_size]; omega, fun i hi => Lib.bytesWorld_at_old w e s i hi⟩
theorem OwnC.made (w : World) (e : TypeId) (l : List UInt8) : OwnC (Lib.bytesWorld w e ⟨l.toArray⟩) w.heap.size e (.slice (some ⟨w.heap.size, 0, none⟩) l.length (grownCap w l.length 0 e)) (bcells l) := by
  have h1 : (⟨l.toArray⟩ : ByteArray).size = l.length := rfl
  have h2 := grownCap_ge w l.length 0 e
  refine ⟨w.heap.size, grownCap w l.length 0 e, _, by simp [bcells], Nat.le_refl _, Lib.bytesWorld_at_new w e _, by simpa [bcells] using h2, ?_, ?_⟩
  · simp only [Lib.bytesCells, h1, Array.size_append, Array.size_map, Array.size_replicate]
    show l.length + _ = _
    omega
  · simp [Lib.bytesCells, bcells]

section
variable {P : Program}
theorem run_append_conv (w : World) (t ty e : TypeId) (i : TypeInfo) (ht : P.underlying t = some (.slice e)) (hi : P.info? e = some i) (hz : i.zero = some (.int .u8 0)) (hsize : i.size = 1) (hby : i.bytes = 1)
    (base : Nat) (v : Value) (xs : List Value) (hown : OwnC w base e v xs) (A : Option Addr) (c B : Nat) (p : List UInt8) (hr : RdB w B A p) (h63 : xs.length + p.length ≤ 1000000) :
    ∃ A' c' w', (Builtin.append_ #[t, t] ty #[v, .slice A p.length c]).run P w = .ok (.slice A' (xs.length + p.length) c') w' ∧ Reads w' w'.heap.size 1 A' (xs.length + p.length) (xs ++ bcells p) ∧ w.grownBy w' v.ownBlock := by
  obtain ⟨g, cap, cur, rfl, hbg, hg, hnc, hcs, htake⟩ := hown
  have hlt : g < w.heap.size := (Array.getElem?_eq_some_iff.1 hg).1
  have hold : ∀ j u, xs[j]? = some u → w.cell? ((⟨g, 0, none⟩ : Addr).add j) = some u := fun j u hj => by
    have h2 : (⟨g, 0, none⟩ : Addr).add j = ⟨g, j, none⟩ := by unfold Addr.add; split <;> simp_all
    have hjl : j < xs.length := (List.getElem?_eq_some_iff.1 hj).1
    rw [h2, World.cell?, hg]
    rw [← htake, List.getElem?_take_of_lt hjl] at hj
    simpa using hj
  have rd : ∀ (w' : World) (g' : Nat) (cs : Array Value) (fz : Nat × Nat), w'.heap[g']? = some (.cells cs e fz) → cs.toList.take (xs.length + p.length) = xs ++ bcells p → Reads w' w'.heap.size 1 (some ⟨g', 0, none⟩) (xs.length + p.length) (xs ++ bcells p) := by
    intro w' g' cs fz h1 h2
    refine ⟨by simp [bcells], fun _ => ⟨_, rfl, (Array.getElem?_eq_some_iff.1 h1).1, fun j u hu => ?_⟩⟩
    have h3 : (⟨g', 0, none⟩ : Addr).add j = ⟨g', j, none⟩ := by unfold Addr.add; split <;> simp_all
    have hjl : j < xs.length + p.length := by have := (List.getElem?_eq_some_iff.1 hu).1; simpa [bcells] using this
    rw [h3, World.cell?, h1]
    rw [← h2, List.getElem?_take_of_lt hjl] at hu
    simpa using hu
  have hfirst : ∀ W : World, (∀ i, i < w.heap.size → W.heap[i]? = w.heap[i]?) → (Builtin.firstCells 1 p.length (.slice A p.length c)).run P W = .ok (bcells p).toArray W := by
    intro W hW
    rcases A with _ | ad
    · have hz0 : p.length = 0 := by
        rcases Nat.eq_zero_or_pos p.length with h0 | h0
        · exact h0
        · obtain ⟨ad, e, _⟩ := hr.2 h0
          cases e
      obtain rfl : p = [] := List.eq_nil_of_length_eq_zero hz0
      simp [Builtin.firstCells, bcells]
    · exact run_firstCells_some (P := P) W 1 p.length ad p.length c (bcells p) (by simp [bcells]) (fun j u hj => by
        have hjn : 0 < p.length := by have := (List.getElem?_eq_some_iff.1 hj).1; simp [bcells] at this; omega
        obtain ⟨ad', e, _, hc⟩ := hr.2 hjn
        injection e with e
        subst e
        have h1 := hc j u hj
        have h2 := World.block_lt_of_cell? w _ h1
        exact (World.cell?_of_block (hW _ h2)).trans h1)
  have hbl : (bcells p).length = p.length := by simp [bcells]
  have hone : ∀ u ∈ bcells p, u.oneCell' = true := fun u hu => by
    obtain ⟨x, _, rfl⟩ := List.mem_map.1 hu
    rfl
  by_cases hroom : xs.length + p.length ≤ cap
  · have hst := run_storeCells_atE P g xs.length e _ (bcells p) 0 cur w hg (Nat.le_refl _) (by rw [hbl]; omega) hone
    simp only [Nat.add_zero] at hst
    have hf := hfirst w (fun _ _ => rfl)
    refine ⟨some ⟨g, 0, none⟩, cap, w.setRow g (cur.toList.take xs.length ++ bcells p ++ cur.toList.drop (xs.length + (bcells p).length)).toArray, ?_, rd _ g _ _ (setRow_heap w g cur _ e _ hg) ?_, ⟨rfl, rfl, rfl, by simp, fun k _ hk => setRow_other w g k _ (fun e => hk (by simp [Value.ownBlock, e]))⟩⟩
    · simp [Builtin.append_, run_underlying ht, sizeOf, typeInfo, hi, hsize, Builtin.lenOf, hroom, hf, Addr.add_lit, hst]
    · rw [htake, ← hbl, ← List.length_append]
      simp only [List.append_assoc]
      rw [← List.append_assoc]
      exact List.take_left
  · have hn : ¬ (xs.length + p.length ≤ cap) := hroom
    have h63' : ¬ (9223372036854775807 < ((xs.length : Int) + (p.length : Int))) := by omega
    have hfit := growslice_fits (need := xs.length + p.length) (old := cap) (bytes := 1) (by omega) (by omega)
    have h48' : ¬ (281474976710656 < Builtin.nextslicecap (xs.length + p.length) cap) := by omega
    have hf := hfirst w.drew (fun _ _ => rfl)
    have hfo := run_firstCells_some (P := P) w.drew 1 xs.length ⟨g, 0, none⟩ xs.length cap xs (by simp) (by simpa using hold)
    refine ⟨some ⟨w.heap.size, 0, none⟩, grownCap w (xs.length + p.length) cap e, w.drew.alloc (.cells (xs.toArray ++ (bcells p).toArray ++ Builtin.zeroCells (Value.int .u8 0).cells (grownCap w (xs.length + p.length) cap e - (xs.length + p.length))) e), ?_, rd _ w.heap.size _ _ (heap_alloc_new w.drew _) ?_, ⟨rfl, rfl, rfl, by simp, fun k hk _ => Below.heap_alloc w.drew _ k hk⟩⟩
    · simp [Builtin.append_, run_underlying ht, sizeOf, typeInfo, zeroValue, hi, hz, hsize, hby, Builtin.lenOf, hn, h63', h48', Question.forced, hf, hfo, newRow, grownCap]
      congr 2
      apply Array.ext'
      simp [List.append_assoc]
    · rw [← hbl, ← List.length_append]
      simp only [Array.toList_append, List.append_assoc]
      rw [← List.append_assoc]
      exact List.take_left
/-- append to such a row, at the operation. -/
theorem wp_append_conv {o : Oper} {a : Act} {w : World} {K : Act → World → Prop} {Q : Exit → Act → World → Prop} (s x : Operand) (t : TypeId)
    (ho : o.op = .call { callee := .builtin .append, args := #[s, x], argTypes := #[t, t] })
    (e : TypeId) (i : TypeInfo) (ht : P.underlying t = some (.slice e)) (hi : P.info? e = some i) (hz : i.zero = some (.int .u8 0)) (hsize : i.size = 1) (hby : i.bytes = 1)
    (base : Nat) (v : Value) (xs : List Value) (hs : a.eval s = v) (hown : OwnC w base e v xs) (A : Option Addr) (c B : Nat) (p : List UInt8) (hx : a.eval x = .slice A p.length c) (hr : RdB w B A p) (h63 : xs.length + p.length ≤ 1000000)
    (h : ∀ A' c' w', Reads w' w'.heap.size 1 A' (xs.length + p.length) (xs ++ bcells p) → w.grownBy w' v.ownBlock → K (a.put o.dst (.slice A' (xs.length + p.length) c')) w') : o.wp P a w K Q := by
  obtain ⟨A', c', w', hrun, h2, h3⟩ := run_append_conv (P := P) w t o.type e i ht hi hz hsize hby base v xs hown A c B p hr h63
  unfold Oper.wp execOp
  simp only [ho, resolve, invoke, builtin, Sem.run_bind, Sem.run_pure, Result.andThen_ok, List.map_toArray, List.map_cons, List.map_nil, hs, hx, hrun]
  exact h A' c' w' h2 h3
end
end Go.Proofs.YtkfjnllbjlndlaaDoor
