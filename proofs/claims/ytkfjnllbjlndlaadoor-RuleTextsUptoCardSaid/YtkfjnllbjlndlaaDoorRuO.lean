/- A rule that came in, by value. -/
import Derived.Test.YtkfjnllbjlndlaaDoorRuA
import Derived.Test.YtkfjnllbjlndlaaDoorTkRow
import Derived.ProofKit
import Derived.OpenShut
import Derived.SizedLaws
import Derived.ChangeSlices
namespace Go.Proofs.YtkfjnllbjlndlaaDoor
open Go.ChangeShapes Go.WideShapes Go.ChangeAt Go.RowKit

theorem cellsA : Tryd.prog.cellsOf 2 = 1 := by kernel_rfl
theorem cellsB : Tryd.prog.cellsOf 23 = 5 := by kernel_rfl
theorem cellsC : Tryd.prog.cellsOf 24 = 1 := by kernel_rfl
theorem cellsD : Tryd.prog.cellsOf 26 = 7 := by kernel_rfl
theorem cellsE : Tryd.prog.cellsOf 4 = 1 := by kernel_rfl
theorem bytesU : Tryd.prog.bytesOf 5 = 1 := by kernel_rfl

set_option maxRecDepth 100000 in
theorem open_ruleCells {H : Type} {enc : TypeId × Value → H} {w : World} {fuel : Nat} {cs : List Value} {x : DataW H × List MemPlace}
    (hf : DataW.trod enc Tryd.prog w 0 (fun _ => true) true fuel 26 cs = some x) (hs : (x.1.weights Tryd.prog 26).all (· ≤ reachBytes) = true) :
    ∃ (r : Ru) (A : Option Addr) (c : Nat), cs = (r.cells A c).toList ∧ RdB w w.heap.size A r.p ∧ r.p.length ≤ c ∧ r.p.length ≤ 140737488351232 ∧ (Lit.int .i64 r.id).wf = true := by
  obtain ⟨xs, n, _, rfl, hcl, hlen, hg⟩ := DataW.trod_struct Tryd.underlying26 hf
  have g0 : DataW.trod enc Tryd.prog w 0 (fun _ => true) true n 2 ((cs.drop 0).take (Tryd.prog.cellsOf 2)) = xs[0]? := hg 0 _ rfl
  have g1 : DataW.trod enc Tryd.prog w 0 (fun _ => true) true n 23 ((cs.drop 1).take (Tryd.prog.cellsOf 23)) = xs[1]? := hg 1 _ rfl
  have g2 : DataW.trod enc Tryd.prog w 0 (fun _ => true) true n 24 ((cs.drop 6).take (Tryd.prog.cellsOf 24)) = xs[2]? := hg 2 _ rfl
  rw [cellsA] at g0
  rw [cellsB] at g1
  rw [cellsC] at g2
  rw [cellsD] at hcl
  match cs, hcl with
  | [c0, d0, d1, d2, d3, d4, c6], _ =>
    match xs, hlen with
    | [y0, y1, y2], _ =>
      simp at g0 g1 g2
      obtain ⟨id, e0, _, hwf⟩ := DataW.trod_int Tryd.underlying2 g0
      obtain ⟨zs, m, _, _, _, hl2, hg2⟩ := DataW.trod_struct Tryd.underlying23 g1
      have b0 : DataW.trod enc Tryd.prog w 0 (fun _ => true) true m 4 (([d0, d1, d2, d3, d4].drop 0).take (Tryd.prog.cellsOf 4)) = zs[0]? := hg2 0 _ rfl
      have b1 : DataW.trod enc Tryd.prog w 0 (fun _ => true) true m 4 (([d0, d1, d2, d3, d4].drop 1).take (Tryd.prog.cellsOf 4)) = zs[1]? := hg2 1 _ rfl
      have b2 : DataW.trod enc Tryd.prog w 0 (fun _ => true) true m 4 (([d0, d1, d2, d3, d4].drop 2).take (Tryd.prog.cellsOf 4)) = zs[2]? := hg2 2 _ rfl
      have b3 : DataW.trod enc Tryd.prog w 0 (fun _ => true) true m 4 (([d0, d1, d2, d3, d4].drop 3).take (Tryd.prog.cellsOf 4)) = zs[3]? := hg2 3 _ rfl
      have b4 : DataW.trod enc Tryd.prog w 0 (fun _ => true) true m 4 (([d0, d1, d2, d3, d4].drop 4).take (Tryd.prog.cellsOf 4)) = zs[4]? := hg2 4 _ rfl
      rw [cellsE] at b0 b1 b2 b3 b4
      match zs, hl2 with
      | [z0, z1, z2, z3, z4], _ =>
        simp at b0 b1 b2 b3 b4
        obtain ⟨f0, k0, _⟩ := DataW.trod_bool Tryd.underlying4 b0
        obtain ⟨f1, k1, _⟩ := DataW.trod_bool Tryd.underlying4 b1
        obtain ⟨f2, k2, _⟩ := DataW.trod_bool Tryd.underlying4 b2
        obtain ⟨f3, k3, _⟩ := DataW.trod_bool Tryd.underlying4 b3
        obtain ⟨f4, k4, _⟩ := DataW.trod_bool Tryd.underlying4 b4
        injection e0 with e0
        injection k0 with k0
        injection k1 with k1
        injection k2 with k2
        injection k3 with k3
        injection k4 with k4
        subst e0 k0 k1 k2 k3 k4
        rcases open_ints Tryd.underlying24 Tryd.underlying5 (by kernel_rfl) g2 with ⟨hcs, _⟩ | ⟨ad, len, cap, ns, hcs, _, hl, hm, hz, hd, hcell, hwz⟩
        · injection hcs with hcs
          subst hcs
          exact ⟨⟨id, ⟨f0, f1, f2, f3, f4⟩, []⟩, none, 0, rfl, Reads.nil_ _ _ _ _, by simp, by simp, hwf⟩
        · injection hcs with hcs
          subst hcs
          have hzl : ns.length = cap := by simpa using hz
          have hrow : IsRow .u8 w (some ad) len cap ns := .inr ⟨ad, rfl, hl, hm, hzl, hcell, hwz⟩
          obtain ⟨p, hp, hr⟩ := rdb_of_row hrow
          subst hp
          refine ⟨⟨id, ⟨f0, f1, f2, f3, f4⟩, p⟩, some ad, cap, rfl, hr, hl, ?_, hwf⟩
          have hw := List.all_eq_true.1 hs
          have hd1 := congrArg Prod.fst hd
          dsimp only at hd1
          have := hw ((lits (H := H) .u8 (ns.take p.length)).length + (lits (H := H) .u8 (ns.drop p.length)).length) (by
            simp only [DataW.weights, Tryd.underlying26, List.map_cons, List.map_nil, hd1, DataW.weightsEach, Tryd.underlying24, bytesU]
            simp)
          simp [lits, reachBytes] at this
          show p.length ≤ _
          omega

set_option maxRecDepth 100000 in
theorem open_rule {H : Type} {enc : TypeId × Value → H} {w : World} {b0 : Nat} {r : Reach} {v : Value} {d : DataW H} {p : List MemPlace}
    (hv : Value.okWide Tryd.prog w r b0 26 v) (h : DataW.Trod enc Tryd.prog w 0 (fun _ => true) true 26 v d p) (hs : (d.weights Tryd.prog 26).all (· ≤ reachBytes) = true) :
    ∃ (r : Ru) (A : Option Addr) (c : Nat), v = r.v A c ∧ RdB w w.heap.size A r.p ∧ r.p.length ≤ c ∧ r.p.length ≤ 140737488351232 := by
  obtain ⟨cs, rfl, hsz⟩ := okWide_struct Tryd.underlying26 hv
  obtain ⟨fuel, hf⟩ := h
  obtain ⟨r, A, c, h1, h2, h3, h4, _⟩ := open_ruleCells hf hs
  refine ⟨r, A, c, ?_, h2, h3, h4⟩
  unfold Ru.v
  have : cs.toList = (r.cells A c).toList := by simpa [Value.cells] using h1
  rw [Array.toList_inj.1 this]
end Go.Proofs.YtkfjnllbjlndlaaDoor
