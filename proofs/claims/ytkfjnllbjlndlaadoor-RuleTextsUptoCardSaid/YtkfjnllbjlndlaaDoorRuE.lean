/- Rules that came in, as a slice. -/
import Derived.Test.YtkfjnllbjlndlaaDoorRuO
import Derived.Test.YtkfjnllbjlndlaaDoorRuL
import Derived.Deep.Slices
namespace Go.Proofs.YtkfjnllbjlndlaaDoor
open Go.ChangeShapes Go.WideShapes Go.ChangeAt Go.RowKit

theorem weights_get {H : Type} {P : Program} {e : TypeId} {l : List (DataW H)} {d : DataW H} (h : d ∈ l) : ∀ n ∈ d.weights P e, n ∈ DataW.weightsAll P e l := by
  induction l with
  | nil => cases h
  | cons x l ih =>
    intro n hn
    simp only [DataW.weightsAll, List.mem_append]
    rcases List.mem_cons.1 h with rfl | h
    · exact .inl hn
    · exact .inr (ih h n hn)

instance : Inhabited RV := ⟨(⟨0, Fl.zero, []⟩, none, 0)⟩
set_option maxRecDepth 100000 in
theorem open_rules {H : Type} {enc : TypeId × Value → H} {w : World} {b0 : Nat} {r : Reach} {v : Value} {d : DataW H} {p : List MemPlace}
    (hv : Value.okWide Tryd.prog w r b0 34 v) (h : DataW.Trod enc Tryd.prog w 0 (fun _ => true) true 34 v d p) (hs : (d.weights Tryd.prog 34).all (· ≤ reachBytes) = true) :
    ∃ (l : List RV) (A : Option Addr) (c : Nat), v = .slice A l.length c ∧ RdRs w w.heap.size A l ∧ l.length ≤ 140737488351232 := by
  obtain ⟨a0, len0, cap0, rfl⟩ := okWide_slice Tryd.underlying34 hv
  obtain ⟨fuel, hf⟩ := h
  rcases Deep.open_slice Tryd.underlying34 hf with ⟨hcs, _⟩ | ⟨a, len, cap, m, n, D, Pl, hcs, _, hl, hm, hmm, hx, hall⟩
  · simp [Value.cells] at hcs
    obtain ⟨rfl, rfl, rfl⟩ := hcs
    exact ⟨[], none, 0, rfl, ⟨fun h => by simp at h, fun x h => by simp at h⟩, by simp⟩
  · simp [Value.cells] at hcs
    obtain ⟨rfl, rfl, rfl⟩ := hcs
    have hmc : m = cap0 := by simpa using hmm
    have hd : d = _ := congrArg Prod.fst hx
    simp only at hd
    have hw := List.all_eq_true.1 hs
    have key : ∀ i, i < len0 → ∃ x : RV, (∀ j u, x.cs[j]? = some u → w.cell? (a.add (i * 7 + j)) = some u) ∧ RdB w w.heap.size x.2.1 x.1.p ∧ x.1.p.length ≤ x.2.2 ∧ x.1.p.length ≤ 140737488351232 ∧ (Lit.int .i64 x.1.id).wf = true := by
      intro i hi
      obtain ⟨cs', h1, h2⟩ := hall i (by omega)
      obtain ⟨_, hlen, hat⟩ := World.cells?_some h1
      obtain ⟨r, A, c, rfl, h3, h4, h5, h6⟩ := open_ruleCells h2 (List.all_eq_true.2 fun k hk => hw k (by
        rw [hd]
        simp only [DataW.weights, Tryd.underlying34, List.mem_cons, List.mem_append]
        exact .inr (.inl (weights_get (List.mem_map.2 ⟨i, by simpa using hi, rfl⟩) k hk))))
      rw [cellsD] at hat
      refine ⟨(r, A, c), fun j u hu => ?_, h3, h4, h5, h6⟩
      have hj : j < 7 := (Array.getElem?_eq_some_iff.1 hu).1
      have hu' : (r.cells A c)[j]? = some u := hu
      rw [← add_of_add, hat j hj]
      simpa using hu'
    obtain ⟨f, hf2⟩ := Deep.choose_lt key
    have hlen : ((List.range len0).map f).length = len0 := by simp
    have hget : ∀ (k : Nat) (x : RV), ((List.range len0).map f)[k]? = some x → k < len0 ∧ x = f k := fun k x hk => by
      have h1 := (List.getElem?_eq_some_iff.1 hk).1
      rw [hlen] at h1
      refine ⟨h1, ?_⟩
      rw [List.getElem?_map, List.getElem?_range h1] at hk
      simpa using hk.symm
    refine ⟨(List.range len0).map f, some a, cap0, by rw [hlen], ⟨fun hn => ?_, fun x hx => ?_⟩, ?_⟩
    · rw [hlen] at hn
      refine ⟨a, rfl, ?_, fun k x hk j u hu => ?_⟩
      · have h1 := (hf2 0 hn).1 0 _ rfl
        have := World.block_lt_of_cell? w _ h1
        rwa [block_of_add] at this
      · obtain ⟨hk1, rfl⟩ := hget k x hk
        exact (hf2 k hk1).1 j u hu
    · obtain ⟨k, hk, hke⟩ := List.mem_iff_getElem.1 hx
      obtain ⟨hk1, rfl⟩ := hget k x (by rw [List.getElem?_eq_getElem hk, hke])
      exact (hf2 k hk1).2
    · simp only [List.length_map, List.length_range]
      have h1 := hw ((((List.range len0).map D).length + ((List.range (m - len0)).map fun j => D (len0 + j)).length) * Tryd.prog.bytesOf 26) (by
        rw [hd]
        simp only [DataW.weights, Tryd.underlying34, List.mem_cons, true_or])
      simp only [List.length_map, List.length_range] at h1
      have h2 : Tryd.prog.bytesOf 26 = 40 := by kernel_rfl
      have h3 : reachBytes = 140737488351232 := by rfl
      have h1 := of_decide_eq_true h1
      rw [h2, h3] at h1
      clear hmm hlen hget
      omega

set_option maxRecDepth 100000 in
theorem open_bytes {H : Type} {enc : TypeId × Value → H} {w : World} {b0 : Nat} {r : Reach} {v : Value} {d : DataW H} {p : List MemPlace}
    (hv : Value.okWide Tryd.prog w r b0 24 v) (h : DataW.Trod enc Tryd.prog w 0 (fun _ => true) true 24 v d p) (hs : (d.weights Tryd.prog 24).all (· ≤ reachBytes) = true) :
    ∃ (T : List UInt8) (A : Option Addr) (c : Nat), v = .slice A T.length c ∧ RdB w w.heap.size A T ∧ T.length ≤ c ∧ T.length ≤ 140737488351232 := by
  obtain ⟨a0, len0, cap0, rfl⟩ := okWide_slice Tryd.underlying24 hv
  obtain ⟨fuel, hf⟩ := h
  rcases open_ints Tryd.underlying24 Tryd.underlying5 (by kernel_rfl) hf with ⟨hcs, _⟩ | ⟨ad, len, cap, ns, hcs, _, hl, hm, hz, hd, hcell, hwz⟩
  · simp [Value.cells] at hcs
    obtain ⟨rfl, rfl, rfl⟩ := hcs
    exact ⟨[], none, 0, rfl, Reads.nil_ _ _ _ _, by simp, by simp⟩
  · simp [Value.cells] at hcs
    obtain ⟨rfl, rfl, rfl⟩ := hcs
    have hzl : ns.length = cap0 := by simpa using hz
    obtain ⟨T, hp, hr⟩ := rdb_of_row (.inr ⟨ad, rfl, hl, hm, hzl, hcell, hwz⟩ : IsRow .u8 w (some ad) len0 cap0 ns)
    subst hp
    refine ⟨T, some ad, cap0, rfl, hr, hl, ?_⟩
    have hd1 := congrArg Prod.fst hd
    dsimp only at hd1
    have hw := List.all_eq_true.1 hs
    have h1 := hw (((lits (H := H) .u8 (ns.take T.length)).length + (lits (H := H) .u8 (ns.drop T.length)).length) * Tryd.prog.bytesOf 5) (by
      rw [hd1]
      simp only [DataW.weights, Tryd.underlying24, List.mem_cons, true_or])
    have h3 : reachBytes = 140737488351232 := by rfl
    have h1 := of_decide_eq_true h1
    rw [bytesU, h3] at h1
    simp [lits] at h1
    omega
end Go.Proofs.YtkfjnllbjlndlaaDoor
