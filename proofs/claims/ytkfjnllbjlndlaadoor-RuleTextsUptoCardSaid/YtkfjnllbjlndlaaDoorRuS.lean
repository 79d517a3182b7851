/- rule.Parse, walked. -/
import Derived.Test.YtkfjnllbjlndlaaDoorRuR
namespace Go.Proofs.YtkfjnllbjlndlaaDoor
open Go.RowKit Go.Shelf

attribute [local go_sem] Oper.semAt_some

def lns (pre : List LnX) : List (List UInt8) := pre.map fun x => x.1.2

/-- What rule.Parse keeps: its results' cells, the rules so far, the ids seen, how much of the text is left. -/
structure PI (W : World) (g2 g3 g4 g5 gm g6 g7 B : Nat) (v : Value) (out : List RV) (whole : Int) : Prop where
  c2 : Bk W g2 34 #[.slice none 0 0]
  c3 : Bk W g3 3 #[.int .i64 0]
  c4 : Bk W g4 29 #[.int .i64 0]
  c5 : Bk W g5 34 #[v]
  c6 : Bk W g6 66 #[.map (some gm)]
  c7 : Bk W g7 3 #[.int .i64 whole]
  sm : SeenM W gm out.length (out.map (·.1.id))
  ow : OwnRs W B v out
/-- What stands in the way of an error's return. -/
structure PX (W : World) (g2 g3 g4 : Nat) (n e : Int) : Prop where
  c2 : Bk W g2 34 #[.slice none 0 0]
  c3 : Bk W g3 3 #[.int .i64 n]
  c4 : Bk W g4 29 #[.int .i64 e]
theorem PI.far {W W' : World} {g2 g3 g4 g5 gm g6 g7 B b : Nat} {v : Value} {out : List RV} {whole : Int} {row : Option Nat} (h : PI W g2 g3 g4 g5 gm g6 g7 B v out whole) (hg : W.grownBy W' row) (hr : ∀ r, row = some r → b ≤ r ∧ r < B)
    (h2 : g2 < b) (h3 : g3 < b) (h4 : g4 < b) (h5 : g5 < b) (hm : gm < b) (h6 : g6 < b) (h7 : g7 < b) : PI W' g2 g3 g4 g5 gm g6 g7 B v out whole where
  c2 := h.c2.grown hg (fun e => by have := hr _ e.symm; omega)
  c3 := h.c3.grown hg (fun e => by have := hr _ e.symm; omega)
  c4 := h.c4.grown hg (fun e => by have := hr _ e.symm; omega)
  c5 := h.c5.grown hg (fun e => by have := hr _ e.symm; omega)
  c6 := h.c6.grown hg (fun e => by have := hr _ e.symm; omega)
  c7 := h.c7.grown hg (fun e => by have := hr _ e.symm; omega)
  sm := h.sm.kept hg (fun e => by have := hr _ e.symm; omega)
  ow := h.ow.far hg (fun r e => (hr r e).2)
theorem PX.far {W W' : World} {g2 g3 g4 b : Nat} {n e : Int} {row : Option Nat} (h : PX W g2 g3 g4 n e) (hg : W.grownBy W' row) (hr : ∀ r, row = some r → b ≤ r) (h2 : g2 < b) (h3 : g3 < b) (h4 : g4 < b) : PX W' g2 g3 g4 n e where
  c2 := h.c2.grown hg (fun e => by have := hr _ e.symm; omega)
  c3 := h.c3.grown hg (fun e => by have := hr _ e.symm; omega)
  c4 := h.c4.grown hg (fun e => by have := hr _ e.symm; omega)

theorem alloc_at (W : World) (cs : List Value) (t : TypeId) (j : Nat) (u : Value) (h : cs[j]? = some u) : (W.alloc (.cells cs.toArray t)).cell? ((⟨W.heap.size, 0, none⟩ : Addr).add j) = some u := by
  have h2 : (⟨W.heap.size, 0, none⟩ : Addr).add j = ⟨W.heap.size, j, none⟩ := by unfold Addr.add; split <;> simp_all
  rw [h2, (Bk.new W t cs.toArray).cells j]
  simpa using h
theorem wf_i64 {i : Int} (h0 : 0 ≤ i) (h1 : i ≤ 2147483648) : (Lit.int .i64 i).wf = true := by
  simp [Lit.wf]
  have : IntKind.i64.min = -9223372036854775808 := rfl
  omega
theorem parseLine_lit (w : World) (A : Option Addr) (c : Nat) (bs : List UInt8) (h : RdB w w.heap.size A bs) (hn : bs.length ≤ 140737488351232) (hc : bs.length ≤ c) (id : Int) (f : Fl.F5) (pp : List UInt8) (at_ er : Int) (hL : (⟨id, f, pp, at_, er⟩ : LineR) = lineM bs) :
    Calls Tryd.prog 34 #[.slice A bs.length c] w fun e w' => ∃ A5 c5, e = .returned (.tuple #[.agg #[.int .i64 id, .bool f.i, .bool f.s, .bool f.m, .bool f.o, .bool f.l, .slice A5 pp.length c5], .int .i64 at_, .int .i64 er]) ∧ w'.ownsRow w.heap.size 5 1 (.slice A5 pp.length c5) pp.length (bcells pp) ∧ Below w.heap.size w w' := by
  refine (parseLine_any w A c bs h hn hc).mono ?_
  rintro e w' ⟨v, rfl, ho, hb⟩
  rw [← hL] at ho ⊢
  obtain ⟨A5, c5, rfl⟩ := own_slice ho
  exact ⟨A5, c5, rfl, ho, hb⟩
section
variable {W : World} {g2 g3 g4 g5 gm g6 g7 B : Nat} {v : Value} {out : List RV} {whole : Int}
/-- The text that is left, counted down. -/
theorem PI.less (h : PI W g2 g3 g4 g5 gm g6 g7 B v out whole) (h2 : g2 < g7) (h3 : g3 < g7) (h4 : g4 < g7) (h5 : g5 < g7) (hm : gm < g7) (h6 : g6 < g7) (hB : g7 < B) (n : Int) : PI (W.setCell ⟨g7, 0, none⟩ (.int .i64 n)) g2 g3 g4 g5 gm g6 g7 B v out n where
  c2 := h.c2.far (p := ⟨g7, 0, none⟩) (by simp; omega) _
  c3 := h.c3.far (p := ⟨g7, 0, none⟩) (by simp; omega) _
  c4 := h.c4.far (p := ⟨g7, 0, none⟩) (by simp; omega) _
  c5 := h.c5.far (p := ⟨g7, 0, none⟩) (by simp; omega) _
  c6 := h.c6.far (p := ⟨g7, 0, none⟩) (by simp; omega) _
  c7 := h.c7.set 0 _
  sm := h.sm.setCell (by simp; omega) _
  ow := h.ow.set (by simpa using hB) _
/-- An error is told. -/
theorem PI.err (h : PI W g2 g3 g4 g5 gm g6 g7 B v out whole) (h3 : g2 ≠ g3) (h4 : g2 ≠ g4) (h5 : g3 ≠ g4) (n e : Int) : PX (((W.setCell ⟨g2, 0, none⟩ (.slice none 0 0)).setCell ⟨g3, 0, none⟩ (.int .i64 n)).setCell ⟨g4, 0, none⟩ (.int .i64 e)) g2 g3 g4 n e where
  c2 := ((h.c2.set 0 _).far (p := ⟨g3, 0, none⟩) h3 _).far (p := ⟨g4, 0, none⟩) h4 _
  c3 := ((h.c3.far (p := ⟨g2, 0, none⟩) h3.symm _).set 0 _).far (p := ⟨g4, 0, none⟩) h5 _
  c4 := ((h.c4.far (p := ⟨g2, 0, none⟩) h4.symm _).far (p := ⟨g3, 0, none⟩) h5.symm _).set 0 _
/-- The rules are told. -/
theorem PI.tell (h : PI W g2 g3 g4 g5 gm g6 g7 B v out whole) (_b : Nat) (A : Option Addr) (m c : Nat) (h3 : g2 ≠ g3) (h4 : g2 ≠ g4) (h5 : g3 ≠ g4) (n e : Int) :
    Bk (((W.setCell ⟨g2, 0, none⟩ (.slice A m c)).setCell ⟨g3, 0, none⟩ (.int .i64 n)).setCell ⟨g4, 0, none⟩ (.int .i64 e)) g2 34 #[.slice A m c] ∧ Bk (((W.setCell ⟨g2, 0, none⟩ (.slice A m c)).setCell ⟨g3, 0, none⟩ (.int .i64 n)).setCell ⟨g4, 0, none⟩ (.int .i64 e)) g3 3 #[.int .i64 n] ∧ Bk (((W.setCell ⟨g2, 0, none⟩ (.slice A m c)).setCell ⟨g3, 0, none⟩ (.int .i64 n)).setCell ⟨g4, 0, none⟩ (.int .i64 e)) g4 29 #[.int .i64 e] :=
  ⟨((h.c2.set 0 _).far (p := ⟨g3, 0, none⟩) h3 _).far (p := ⟨g4, 0, none⟩) h4 _, ((h.c3.far (p := ⟨g2, 0, none⟩) h3.symm _).set 0 _).far (p := ⟨g4, 0, none⟩) h5 _, ((h.c4.far (p := ⟨g2, 0, none⟩) h4.symm _).far (p := ⟨g3, 0, none⟩) h5.symm _).set 0 _⟩
/-- A rule more is laid in. -/
theorem PI.push (h : PI W g2 g3 g4 g5 gm g6 g7 B v out whole) {x : RV} {o o2 : Obj} {W6 W8 : World} {v' : Value} (hs6 : SeenM W6 gm (out.length + 1) (out.map (·.1.id) ++ [x.1.id])) (hg6 : (W.alloc o).grownBy W6 (some gm))
    (hg8 : (W6.alloc o2).grownBy W8 v.ownBlock) (ho8 : W8.ownsRow B 26 7 v' (out.length + 1) ((out.flatMap fun x => x.cs.toList) ++ x.cs.toList))
    (hp : W.ownsRow B 5 1 (.slice x.2.1 x.1.p.length x.2.2) x.1.p.length (bcells x.1.p)) (hf : x.1.p.length ≤ 1024 ∧ (Lit.int .i64 x.1.id).wf = true)
    (h2 : g2 < B) (h3 : g3 < B) (h4 : g4 < B) (h5 : g5 < B) (hm : gm < B) (h6 : g6 < B) (h7 : g7 < B) (n2 : g2 ≠ gm) (n3 : g3 ≠ gm) (n4 : g4 ≠ gm) (n5 : g5 ≠ gm) (n6 : g6 ≠ gm) (n7 : g7 ≠ gm) (k2 : g2 ≠ g5) (k3 : g3 ≠ g5) (k4 : g4 ≠ g5) (k6 : g6 ≠ g5) (k7 : g7 ≠ g5) :
    PI (W8.setCell ⟨g5, 0, none⟩ v') g2 g3 g4 g5 gm g6 g7 B v' (out ++ [x]) whole := by
  have hne : ∀ g, g < B → some g ≠ v.ownBlock := fun g hg e => by have := own_base h.ow.own _ e.symm; omega
  have key : ∀ (g : Nat) (t : TypeId) (cs : Array Value), Bk W g t cs → g ≠ gm → g < B → Bk W8 g t cs := fun g t cs hb h1 h2 => (((hb.alloc o).grown hg6 (fun e => by injection e with e; exact h1 e)).alloc o2).grown hg8 (hne g h2)
  refine ⟨(key _ _ _ h.c2 n2 h2).far (p := ⟨g5, 0, none⟩) k2 _, (key _ _ _ h.c3 n3 h3).far (p := ⟨g5, 0, none⟩) k3 _, (key _ _ _ h.c4 n4 h4).far (p := ⟨g5, 0, none⟩) k4 _, (key _ _ _ h.c5 n5 h5).set 0 _, (key _ _ _ h.c6 n6 h6).far (p := ⟨g5, 0, none⟩) k6 _, (key _ _ _ h.c7 n7 h7).far (p := ⟨g5, 0, none⟩) k7 _, ?_, ?_⟩
  · have := ((hs6.alloc o2).kept hg8 (hne gm hm)).setCell (a := ⟨g5, 0, none⟩) (fun e => n5 e.symm) v'
    simpa using this
  · have hr : ∀ r, some gm = some r → r < B := fun r e => by injection e with e; omega
    have w6 : OwnRs (W6.alloc o2) B v out := ((h.ow.alloc o).far hg6 hr).alloc o2
    have p6 := (own_far (hp.alloc o) hg6 hr).alloc o2
    exact (w6.snoc hg8 ho8 p6 hf).set (p := ⟨g5, 0, none⟩) h5 _
end

theorem numF_snd (l : List (List UInt8)) : ∀ k, (numF k l).map (·.2) = l := by
  induction l with
  | nil => intro k; rfl
  | cons x l ih => intro k; simp [numF, ih]
theorem numF_fst (l : List (List UInt8)) : ∀ (k i : Nat) (y : Nat × List UInt8), (numF k l)[i]? = some y → y.1 = k + i := by
  induction l with
  | nil => intro k i y h; simp [numF] at h
  | cons x l ih =>
    intro k i y h
    cases i with
    | zero => simp [numF] at h; rw [← h]; rfl
    | succ i =>
      simp only [numF, List.getElem?_cons_succ] at h
      have := ih _ _ _ h
      omega
theorem lns_map (pre : List LnX) : (pre.map (·.1)).map (·.2) = lns pre := by simp [lns]
theorem lns_all {xs : List LnX} {l : List (List UInt8)} (h : xs.map (·.1) = numF 1 l) : lns xs = l := by rw [← lns_map, h, numF_snd]
theorem lns_some {pre : List LnX} {l : List (List UInt8)} (h : pre.map (·.1) <+: numF 1 l) : ∃ rest, l = lns pre ++ rest := by
  obtain ⟨t, ht⟩ := h
  refine ⟨t.map (·.2), ?_⟩
  rw [← lns_map, ← List.map_append, ht, numF_snd]
theorem last_num {pre0 : List LnX} {x : LnX} {l : List (List UInt8)} (h : (pre0 ++ [x]).map (·.1) <+: numF 1 l) : x.1.1 = 1 + pre0.length := by
  obtain ⟨t, ht⟩ := h
  refine numF_fst l 1 pre0.length x.1 ?_
  rw [← ht]
  simp
set_option maxRecDepth 100000 in
theorem parse_results {W : World} {tmps : Array Value} {g2 g3 g4 : Nat} {A : Option Addr} {m c : Nat} {n e : Int} (h2 : tmps[2]?.getD undef = .pointer (some ⟨g2, 0, none⟩)) (h3 : tmps[3]?.getD undef = .pointer (some ⟨g3, 0, none⟩)) (h4 : tmps[4]?.getD undef = .pointer (some ⟨g4, 0, none⟩))
    (b2 : Bk W g2 34 #[.slice A m c]) (b3 : Bk W g3 3 #[.int .i64 n]) (b4 : Bk W g4 29 #[.int .i64 e]) :
    (results Tryd.f20 tmps).run Tryd.prog W = .ok (.tuple #[.slice A m c, .int .i64 n, .int .i64 e]) W := by
  have c2 := b2.cells 0
  have c3 := b3.cells 0
  have c4 := b4.cells 0
  simp at c2 c3 c4
  simp [results, Tryd.results20, go_sem, h2, h3, h4, c2, c3, c4]
theorem Bk.putObj {W : World} {g b : Nat} {t : TypeId} {cs : Array Value} (h : Bk W g t cs) (hne : g ≠ b) (o : Obj) : Bk (W.putObj b o) g t cs := (World.putObj_heap_other hne).trans h

set_option maxRecDepth 100000 in
set_option maxHeartbeats 4000000 in
theorem parse_any (w : World) (A : Option Addr) (c : Nat) (p : List UInt8) (h : RdB w w.heap.size A p) (hs : p.length ≤ 140737488351232) :
    Calls Tryd.prog 20 #[.slice A p.length c] w fun e w' => (∃ A' c' l, e = .returned (.tuple #[.slice A' l.length c', .int .i64 (parseM p).2.1, .int .i64 (parseM p).2.2]) ∧ l.map (·.1) = (parseM p).1 ∧ RdRs w' w'.heap.size A' l) ∧ Below w.heap.size w w' := by
  obtain ⟨i0, hi, hz0, hz1, hz2⟩ := info_parts infoRu
  have hmm := @run_makeMap Tryd.prog
  have HRW := Lib.hid (show ∀ w1, Below w.heap.size w w1 → RdB w1 w1.heap.size A p from fun w1 hb => Reads.more (Reads.below h hb) hb.size)
  clear h
  refine (callsIn_wide (n := 6)).1 ?_
  refine callsIn_of_wp_marks Tryd.func20 rfl trivial ?_ rfl
  simp only [Tryd.ntmps20, List.size_toArray, List.length_cons, List.length_nil, Nat.reduceAdd, Nat.reduceSub, Array.replicate_succ, Array.replicate_zero, List.push_toArray, List.append_toArray, List.nil_append, List.cons_append]
  have hfw : ∀ f, Fence.wide.fn f := fun _ => trivial
  have hdw : Fence.wide.depth.isSome = false := rfl
  gi_wp2
  clear hmm
  obtain ⟨w1, hw1⟩ : ∃ w1, w1 = (((((((w.alloc (Obj.cells #[Value.slice none 0 0] 34)).alloc (Obj.cells #[Value.int IntKind.i64 0] 3)).alloc (Obj.cells #[Value.int IntKind.i64 0] 29)).alloc (Obj.cells #[Value.slice none 0 0] 34)).alloc (Obj.map #[] 0)).alloc (Obj.cells #[Value.map (some (w.heap.size + 1 + 1 + 1 + 1))] 66)).alloc (Obj.cells #[Value.int IntKind.i64 ↑p.length] 3)) := ⟨_, rfl⟩
  have hs1 : w1.heap.size = w.heap.size + 7 := by rw [hw1]; simp
  have HB1 := Lib.hid (show Below w.heap.size w w1 by rw [hw1]; repeat (first | exact Below.refl _ _ | refine Below.alloc ?_ (by simp <;> omega) _))
  have HI1 := Lib.hid (show ∀ B, PI w1 w.heap.size (w.heap.size + 1) (w.heap.size + 1 + 1) (w.heap.size + 1 + 1 + 1) (w.heap.size + 1 + 1 + 1 + 1) (w.heap.size + 1 + 1 + 1 + 1 + 1) (w.heap.size + 1 + 1 + 1 + 1 + 1 + 1) B (.slice none 0 0) [] p.length from fun B => {
    c2 := by rw [hw1]; exact ((((((Bk.new w _ _).alloc _).alloc _).alloc _).alloc _).alloc _).alloc _
    c3 := by rw [hw1]; exact (((((Bk.at_new _ _ _ _ (by simp)).alloc _).alloc _).alloc _).alloc _).alloc _
    c4 := by rw [hw1]; exact ((((Bk.at_new _ _ _ _ (by simp)).alloc _).alloc _).alloc _).alloc _
    c5 := by rw [hw1]; exact (((Bk.at_new _ _ _ _ (by simp)).alloc _).alloc _).alloc _
    c6 := by rw [hw1]; exact (Bk.at_new _ _ _ _ (by simp)).alloc _
    c7 := by rw [hw1]; exact Bk.at_new _ _ _ _ (by simp)
    sm := by
      rw [hw1]
      have := SeenM.new (((((w.alloc (Obj.cells #[Value.slice none 0 0] 34)).alloc (Obj.cells #[Value.int IntKind.i64 0] 3)).alloc (Obj.cells #[Value.int IntKind.i64 0] 29)).alloc (Obj.cells #[Value.slice none 0 0] 34)))
      simp only [World.size_alloc] at this
      exact (this.alloc _).alloc _
    ow := OwnRs.nil_ _ _ })
  rw [← hw1]
  clear hw1
  obtain ⟨g7, h7⟩ : ∃ g, g = w.heap.size + 1 + 1 + 1 + 1 + 1 + 1 := ⟨_, rfl⟩
  obtain ⟨g6, h6⟩ : ∃ g, g = w.heap.size + 1 + 1 + 1 + 1 + 1 := ⟨_, rfl⟩
  obtain ⟨gm, hm⟩ : ∃ g, g = w.heap.size + 1 + 1 + 1 + 1 := ⟨_, rfl⟩
  obtain ⟨g5, h5⟩ : ∃ g, g = w.heap.size + 1 + 1 + 1 := ⟨_, rfl⟩
  obtain ⟨g4, h4⟩ : ∃ g, g = w.heap.size + 1 + 1 := ⟨_, rfl⟩
  obtain ⟨g3, h3⟩ : ∃ g, g = w.heap.size + 1 := ⟨_, rfl⟩
  rw [← h7, ← h6, ← hm, ← h5, ← h4, ← h3] at HI1 ⊢
  obtain rfl : g3 = w.heap.size + 1 := h3
  obtain rfl : g4 = w.heap.size + 2 := h4
  obtain rfl : g5 = w.heap.size + 3 := h5
  obtain rfl : gm = w.heap.size + 4 := hm
  obtain rfl : g6 = w.heap.size + 5 := h6
  obtain rfl : g7 = w.heap.size + 6 := h7
  have hs1' : w.heap.size + 7 ≤ w1.heap.size := by omega
  clear hs1
  refine (callsIn_wide.2 (lines_any w1 A c p (HRW.out _ HB1.out) hs)).mono ?_
  rintro e w2 ⟨bp, A', c', rfl, hbp, hrd, hcap, hblk, hbpb, hbel⟩
  have hs2 := hbel.size
  have HBK := Lib.hid hblk
  have HB2 := Lib.hid hbel
  have HBP := Lib.hid hbp
  have HRD := Lib.hid hrd
  have HI3 := Lib.hid (show ∀ B, PI w2 w.heap.size (w.heap.size + 1) (w.heap.size + 2) (w.heap.size + 3) (w.heap.size + 4) (w.heap.size + 5) (w.heap.size + 6) B (.slice none 0 0) [] p.length from fun B => (HI1.out B).far (grown_below HB2.out) (b := w1.heap.size) (fun r e => by cases e) (by omega) (by omega) (by omega) (by omega) (by omega) (by omega) (by omega))
  clear hbp hrd hbel hblk HI1
  have HKB := Lib.hid (show ∀ i, ((∃ ad, A' = some ad ∧ i = ad.block) ∨ (w2.heap.size ≤ i ∧ i < w2.heap.size + 3)) → w1.heap.size ≤ i ∧ i < w2.heap.size + 3 from fun i hk => by
    rcases hk with ⟨ad, e, rfl⟩ | hk
    · have := HBK.out ad e
      omega
    · omega)
  have HB3 := Lib.hid (show Below w.heap.size w w2 from below_then HB1.out HB2.out (by omega))
  gi_wp2
  refine wpIn_rangeP rfl (by omega) (gf := 63) (lb := #[.pointer (some ⟨bp, 0, none⟩)]) rfl trivial (enters_of Tryd.func63 (by kernel_rfl) rfl)
    (lines1 (6 - 1) bp A' c' p w2 HBP.out HRD.out hcap hs (fun i => ∃ ad, A' = some ad ∧ i = ad.block) (fun ad e => ⟨ad, e, rfl⟩)) (Below.refl _ _) (fun _ => rfl)
    (fun pre W => ∃ v out whole, PI W w.heap.size (w.heap.size + 1) (w.heap.size + 2) (w.heap.size + 3) (w.heap.size + 4) (w.heap.size + 5) (w.heap.size + 6) (w2.heap.size + 3) v out whole ∧ out.length = pre.length ∧ out.length ≤ 1024 ∧ 0 ≤ whole ∧ whole ≤ p.length ∧ Below w.heap.size w W ∧ ∀ rest, parseGo (lns pre ++ rest) p.length [] 1 = parseGo rest whole (out.map (·.1)) (1 + pre.length))
    (fun c pre W => c = .ret ∧ ∃ (pre0 : List LnX) (x : LnX) (e : Int), pre = pre0 ++ [x] ∧ PX W w.heap.size (w.heap.size + 1) (w.heap.size + 2) x.1.1 e ∧ Below w.heap.size w W ∧ ∀ rest, parseGo (lns pre ++ rest) p.length [] 1 = ([], 1 + (pre0.length : Int), e)) ?hI ?hIx ⟨_, [], p.length, HI3.out _, rfl, by simp, by omega, by omega, HB3.out, fun rest => rfl⟩
    (fun s W => ∃ A3 c3, s.1.2 = .slice A3 s.1.1.2.length c3 ∧ RdB W W.heap.size A3 s.1.1.2 ∧ (∀ ad, A3 = some ad → w2.heap.size + 3 ≤ ad.block) ∧ s.1.1.2.length ≤ c3 ∧ s.1.1.2.length ≤ p.length ∧ s.2 = { tmps := #[.slice A p.length c, undef, .pointer (some ⟨w.heap.size, 0, none⟩), .pointer (some ⟨w.heap.size + 1, 0, none⟩), .pointer (some ⟨w.heap.size + 2, 0, none⟩), .pointer (some ⟨w.heap.size + 3, 0, none⟩), .pointer (some ⟨w.heap.size + 5, 0, none⟩), .pointer (some ⟨w.heap.size + 6, 0, none⟩), .int .i64 s.1.1.1, .slice A3 s.1.1.2.length c3, undef, undef, undef, .map (some (w.heap.size + 4)), .slice A p.length c, .int .i64 p.length, .slice A p.length c, .func (.func 63) #[] #[.pointer (some ⟨bp, 0, none⟩)], .int .i64 s.1.1.1, .slice A3 s.1.1.2.length c3, undef, undef, undef, undef, undef, undef, undef, undef, undef, undef, undef, undef, undef, undef, undef, undef, undef, undef, undef, undef, undef, undef, undef, undef, undef, undef, undef, undef, undef, undef, undef, undef, undef, undef, undef, undef, undef, undef], defers := [] }) ?hAx ?assign ?body ?done ?stop
  case hI =>
    rintro pre X Y row ⟨v, out, whole, hp, r1, r2, r3, r4, hb, r5⟩ hg hrow
    exact ⟨v, out, whole, hp.far hg (b := w2.heap.size) hrow (by omega) (by omega) (by omega) (by omega) (by omega) (by omega) (by omega), r1, r2, r3, r4, Below.grown hb hg hb.size (fun i e => by have := hrow i e; omega), r5⟩
  case hIx =>
    rintro c pre X Y row ⟨hc, pre0, x, e, r1, hp, hb, r5⟩ hg hrow
    exact ⟨hc, pre0, x, e, r1, hp.far hg (b := w2.heap.size) (fun r e => (hrow r e).1) (by omega) (by omega) (by omega), Below.grown hb hg hb.size (fun i e => by have := hrow i e; omega), r5⟩
  case hAx =>
    rintro s X Y row ⟨A3, c3, h1, h2, h3, h4, h5, h6⟩ hg hrow
    exact ⟨A3, c3, h1, Reads.more (RdB.grownHi h2 hg (Nat.le_refl _) h3 (fun r e => (hrow r e).2)) hg.size, h3, h4, h5, h6⟩
  case assign =>
    rintro l pre ⟨⟨k, b⟩, v0⟩ W K hIW ⟨A3, c3, h1, h2, h3, h4, h5⟩ hsz hlen hK
    have HIW := Lib.hid hIW
    clear hIW
    dsimp only at h1 h2
    subst h1
    dsimp only [encL]
    gi_wp2
    exact hK _ _ (KeptOn.refl _ W) HIW.out ⟨A3, c3, rfl, h2, h3, h4, h5, rfl⟩
  case body =>
    rintro l pre ⟨⟨k, b⟩, v0⟩ a₁ W ⟨A3, c3, h1, h2, h3, h4, h5, hfr⟩ ⟨v, out, whole, hp, r1, r2, r3, r4, hb, r5⟩ hsz hlen
    dsimp only at h1 h2 h4 h5 hfr
    subst h1 hfr
    obtain ⟨A2, c2, rfl⟩ := own_slice hp.ow.own
    have q2 := hp.c2.cells
    have q3 := hp.c3.cells
    have q4 := hp.c4.cells
    have q5 := hp.c5.cells
    have q7 := hp.c7.cells
    have f2 := hp.c2.frozens
    have f3 := hp.c3.frozens
    have f4 := hp.c4.frozens
    have f5 := hp.c5.frozens
    have f7 := hp.c7.frozens
    have HP7 := Lib.hid (hp.less (by omega) (by omega) (by omega) (by omega) (by omega) (by omega) (by omega) (whole - ((b.length : Int) + 1)))
    have HR5 := Lib.hid r5
    have HR1 := Lib.hid r1
    have HB := Lib.hid hb
    have HR := Lib.hid h2
    have hws := hb.size
    clear hp r5 hb h2 r1
    have HK0 := Lib.hid (show ∀ (X : World) (q : Addr) (u : Value), q.block < w1.heap.size → KeptOn (fun i => (∃ ad, A' = some ad ∧ i = ad.block) ∨ (w2.heap.size ≤ i ∧ i < w2.heap.size + 3)) X (X.setCell q u) from fun X q u hq => KeptOn.setCell X q u (fun hk => by have := (HKB.out _ hk).1; omega))
    by_cases ha : 1024 ≤ out.length
    · have hai : (out.length : Int) ≥ 1024 := by omega
      gi_wp2
      refine ⟨(HK0.out _ _ _ (by simp; omega)).trans ((HK0.out _ _ _ (by simp; omega)).trans ((HK0.out _ _ _ (by simp; omega)).trans (HK0.out _ _ _ (by simp; omega)))), rfl, pre, ((k, b), .slice A3 b.length c3), 3, rfl, HP7.out.err (by omega) (by omega) (by omega) _ _, ?_, fun rest => ?_⟩
      · exact (((HB.out.setCell (p := ⟨w.heap.size + 6, 0, none⟩) (by simp) _).setCell (p := ⟨w.heap.size, 0, none⟩) (by simp) _).setCell (p := ⟨w.heap.size + 1, 0, none⟩) (by simp) _).setCell (p := ⟨w.heap.size + 2, 0, none⟩) (by simp) _
      · have := HR5.out (b :: rest)
        rw [parseGo, if_pos (by rw [List.length_map]; exact ha)] at this
        simpa [lns] using this
    · have hai : ¬ (out.length : Int) ≥ 1024 := by omega
      obtain ⟨⟨id, f, pp, at_, er⟩, hL⟩ : ∃ L, L = lineM b := ⟨_, rfl⟩
      have HL := Lib.hid hL
      have HRD7 := Lib.hid (show ∀ u, RdB (W.setCell ⟨w.heap.size + 6, 0, none⟩ u) (W.setCell ⟨w.heap.size + 6, 0, none⟩ u).heap.size A3 b from fun u => Reads.more (RdB.grownHi HR.out (grownBy_setCell' W _ u) (Nat.le_refl _) h3 (fun r e => by cases e; omega)) (grownBy_setCell' W _ u).size)
      have HSZ := Lib.hid (show ∀ u, (W.setCell ⟨w.heap.size + 6, 0, none⟩ u).heap.size = W.heap.size from fun u => by simp [World.setCell])
      have HERR := Lib.hid (show ∀ (w5 : World) (o : Obj) (e : Int), Below (W.setCell ⟨w.heap.size + 6, 0, none⟩ (.int .i64 (whole - ((b.length : Int) + 1)))).heap.size (W.setCell ⟨w.heap.size + 6, 0, none⟩ (.int .i64 (whole - ((b.length : Int) + 1)))) w5 → (∀ rest, parseGo (b :: rest) whole (out.map (·.1)) (1 + (pre.length : Int)) = ([], 1 + (pre.length : Int), e)) →
          KeptOn (fun i => (∃ ad, A' = some ad ∧ i = ad.block) ∨ (w2.heap.size ≤ i ∧ i < w2.heap.size + 3)) W ((((w5.alloc o).setCell ⟨w.heap.size, 0, none⟩ (.slice none 0 0)).setCell ⟨w.heap.size + 1, 0, none⟩ (.int .i64 k)).setCell ⟨w.heap.size + 2, 0, none⟩ (.int .i64 e)) ∧
          (∃ (pre0 : List LnX) (x : LnX) (e' : Int), pre ++ [((k, b), .slice A3 b.length c3)] = pre0 ++ [x] ∧ PX ((((w5.alloc o).setCell ⟨w.heap.size, 0, none⟩ (.slice none 0 0)).setCell ⟨w.heap.size + 1, 0, none⟩ (.int .i64 k)).setCell ⟨w.heap.size + 2, 0, none⟩ (.int .i64 e)) w.heap.size (w.heap.size + 1) (w.heap.size + 2) x.1.1 e' ∧ Below w.heap.size w ((((w5.alloc o).setCell ⟨w.heap.size, 0, none⟩ (.slice none 0 0)).setCell ⟨w.heap.size + 1, 0, none⟩ (.int .i64 k)).setCell ⟨w.heap.size + 2, 0, none⟩ (.int .i64 e)) ∧ ∀ rest, parseGo (lns (pre ++ [((k, b), .slice A3 b.length c3)]) ++ rest) p.length [] 1 = ([], 1 + (pre0.length : Int), e')) from fun w5 o e hb hr => by
        have hbs := hb.size
        rw [HSZ.out] at hbs
        have h6 : Below (W.setCell ⟨w.heap.size + 6, 0, none⟩ (.int .i64 (whole - ((b.length : Int) + 1)))).heap.size (W.setCell ⟨w.heap.size + 6, 0, none⟩ (.int .i64 (whole - ((b.length : Int) + 1)))) (w5.alloc o) := hb.alloc hb.size o
        have hp6 := HP7.out.far (grown_below h6) (b := W.heap.size) (fun r e => by cases e) (by omega) (by omega) (by omega) (by omega) (by omega) (by omega) (by omega)
        refine ⟨(HK0.out _ _ _ (by simp; omega)).trans ((KeptOn.of_below h6).trans ((HK0.out _ _ _ (by simp; omega)).trans ((HK0.out _ _ _ (by simp; omega)).trans (HK0.out _ _ _ (by simp; omega))))), pre, _, e, rfl, hp6.err (by omega) (by omega) (by omega) _ _, ?_, fun rest => ?_⟩
        · exact (((below_then (HB.out.setCell (p := ⟨w.heap.size + 6, 0, none⟩) (by simp) _) h6 (by rw [HSZ.out]; exact hws)).setCell (p := ⟨w.heap.size, 0, none⟩) (by simp) _).setCell (p := ⟨w.heap.size + 1, 0, none⟩) (by simp) _).setCell (p := ⟨w.heap.size + 2, 0, none⟩) (by simp) _
        · have := HR5.out (b :: rest)
          rw [hr rest] at this
          simpa [lns] using this)
      have HA := Lib.hid (show ¬ 1024 ≤ (out.map (·.1)).length by rw [List.length_map]; exact ha)
      by_cases h0 : er = 0
      · subst h0
        obtain ⟨hq1, hq2⟩ := lineM_inv (b := b) (by rw [← hL])
        rw [← hL] at hq1
        obtain ⟨hid1, hid2, _, hpp⟩ := chk_ok hq1
        simp only [LineR.ru] at hid1 hid2 hpp
        have HWF := Lib.hid (wf_i64 (i := id) (by omega) hid2)
        clear hq1 hq2 hL
        by_cases hw : whole - ((b.length : Int) + 1) < 0
        · have HW := Lib.hid hw
          gi_wp2_with (gi_at_call 34; refine (callsIn_wide.2 (parseLine_lit _ A3 c3 b (HRD7.out _) (by omega) h4 id f pp at_ 0 HL.out)).mono ?_; rintro e w5 ⟨A5, c5, rfl, ho, hb⟩; have HO := Lib.hid ho; have HB5 := Lib.hid hb; have hp5 := HP7.out.far (grown_below hb) (b := W.heap.size) (fun r e => by cases e) (by omega) (by omega) (by omega) (by omega) (by omega) (by omega) (by omega); have s5 : W.heap.size ≤ w5.heap.size := (by have h1 := hb.size; rw [HSZ.out] at h1; exact h1); have q2 := (fun o => (hp5.c2.alloc o).cells); have f2 := (fun o => (hp5.c2.alloc o).frozens); have q3 := (fun o => (hp5.c3.alloc o).cells); have f3 := (fun o => (hp5.c3.alloc o).frozens); have q4 := (fun o => (hp5.c4.alloc o).cells); have f4 := (fun o => (hp5.c4.alloc o).frozens); have q5 := (fun o => (hp5.c5.alloc o).cells); have f5 := (fun o => (hp5.c5.alloc o).frozens); have q6 := (fun o => (hp5.c6.alloc o).cells); have f6 := (fun o => (hp5.c6.alloc o).frozens); have q7 := (fun o => (hp5.c7.alloc o).cells); have f7 := (fun o => (hp5.c7.alloc o).frozens); have HP5 := Lib.hid hp5; clear ho hb hp5)
          have hfin := HERR.out w5 (.cells #[.int .i64 id, .bool f.i, .bool f.s, .bool f.m, .bool f.o, .bool f.l, .slice A5 pp.length c5] 26) 201 HB5.out (fun rest => by rw [parseGo, if_neg HA.out, ← HL.out, if_neg (by simp), if_pos HW.out])
          exact ⟨hfin.1, rfl, hfin.2⟩
        · have HW := Lib.hid hw
          by_cases hin : id ∈ out.map (·.1.id)
          · gi_wp2_with (gi_at_call 34; refine (callsIn_wide.2 (parseLine_lit _ A3 c3 b (HRD7.out _) (by omega) h4 id f pp at_ 0 HL.out)).mono ?_; rintro e w5 ⟨A5, c5, rfl, ho, hb⟩; have HO := Lib.hid ho; have HB5 := Lib.hid hb; have hp5 := HP7.out.far (grown_below hb) (b := W.heap.size) (fun r e => by cases e) (by omega) (by omega) (by omega) (by omega) (by omega) (by omega) (by omega); have s5 : W.heap.size ≤ w5.heap.size := (by have h1 := hb.size; rw [HSZ.out] at h1; exact h1); have q2 := (fun o => (hp5.c2.alloc o).cells); have f2 := (fun o => (hp5.c2.alloc o).frozens); have q3 := (fun o => (hp5.c3.alloc o).cells); have f3 := (fun o => (hp5.c3.alloc o).frozens); have q4 := (fun o => (hp5.c4.alloc o).cells); have f4 := (fun o => (hp5.c4.alloc o).frozens); have q5 := (fun o => (hp5.c5.alloc o).cells); have f5 := (fun o => (hp5.c5.alloc o).frozens); have q6 := (fun o => (hp5.c6.alloc o).cells); have f6 := (fun o => (hp5.c6.alloc o).frozens); have q7 := (fun o => (hp5.c7.alloc o).cells); have f7 := (fun o => (hp5.c7.alloc o).frozens); have HP5 := Lib.hid hp5; have hlk : ∀ o, (Instr.lookup 66 (.map (some (w.heap.size + 4))) (.int .i64 id) false).run Tryd.prog (w5.alloc o) = .ok (.bool true) (w5.alloc o) := (fun o => by have := (hp5.sm.alloc o).look id HWF.out; rw [decide_eq_true hin] at this; exact this); clear ho hb hp5)
            have hfin := HERR.out w5 (.cells #[.int .i64 id, .bool f.i, .bool f.s, .bool f.m, .bool f.o, .bool f.l, .slice A5 pp.length c5] 26) 5 HB5.out (fun rest => by rw [parseGo, if_neg HA.out, ← HL.out, if_neg (by simp), if_neg (by have := HW.out; omega), if_pos (by rw [List.map_map]; exact hin)])
            exact ⟨hfin.1, rfl, hfin.2⟩
          · gi_wp2_with (first | (gi_at_mapUpdate; refine wpListIn_seen_put _ rfl _ _ _ rfl (w.heap.size + 4) out.length (out.map (·.1.id)) id rfl rfl rfl (HP5.out.sm.alloc _) (by omega) HWF.out ?_; intro w6 hs6 hg6; have HS6 := Lib.hid hs6; have HG6 := Lib.hid hg6; have s6 := hg6.size; rw [World.size_alloc] at s6; have kR := ((Bk.new w5 26 #[.int .i64 id, .bool f.i, .bool f.s, .bool f.m, .bool f.o, .bool f.l, .slice A5 pp.length c5]).grown hg6 (fun e => by injection e with e; omega)).cells; have k5 := ((HP5.out.c5.alloc (.cells #[.int .i64 id, .bool f.i, .bool f.s, .bool f.m, .bool f.o, .bool f.l, .slice A5 pp.length c5] 26)).grown hg6 (fun e => by injection e with e; omega)); have HK5 := Lib.hid k5; have q5' := k5.cells; have f5' := k5.frozens; have HOW := Lib.hid ((HP5.out.ow.alloc (.cells #[.int .i64 id, .bool f.i, .bool f.s, .bool f.m, .bool f.o, .bool f.l, .slice A5 pp.length c5] 26)).far hg6 (fun r e => by injection e with e; omega)); clear hs6 hg6 k5 hlk) | (gi_at_builtin; refine wpListIn_append_own _ rfl _ _ 34 rfl (w2.heap.size + 3) 26 i0 (.agg #[.int .i64 0, .bool false, .bool false, .bool false, .bool false, .bool false, .slice none 0 0]) 7 40 Tryd.underlying34 hi hz0 hz1 hz2 rfl (by decide) _ out.length (out.flatMap fun x => x.cs.toList) rfl (HOW.out.own.alloc _) ⟨w6.heap.size, 0, none⟩ 1 1 [.int .i64 id, .bool f.i, .bool f.s, .bool f.m, .bool f.o, .bool f.l, .slice A5 pp.length c5] rfl ?qc1 ?qc2 ?qc3 ?qc4 ?qc5 ?qc6 ?_) | (gi_at_call 34; refine (callsIn_wide.2 (parseLine_lit _ A3 c3 b (HRD7.out _) (by omega) h4 id f pp at_ 0 HL.out)).mono ?_; rintro e w5 ⟨A5, c5, rfl, ho, hb⟩; have HO := Lib.hid ho; have HB5 := Lib.hid hb; have hp5 := HP7.out.far (grown_below hb) (b := W.heap.size) (fun r e => by cases e) (by omega) (by omega) (by omega) (by omega) (by omega) (by omega) (by omega); have s5 : W.heap.size ≤ w5.heap.size := (by have h1 := hb.size; rw [HSZ.out] at h1; exact h1); have q2 := (fun o => (hp5.c2.alloc o).cells); have f2 := (fun o => (hp5.c2.alloc o).frozens); have q3 := (fun o => (hp5.c3.alloc o).cells); have f3 := (fun o => (hp5.c3.alloc o).frozens); have q4 := (fun o => (hp5.c4.alloc o).cells); have f4 := (fun o => (hp5.c4.alloc o).frozens); have q5 := (fun o => (hp5.c5.alloc o).cells); have f5 := (fun o => (hp5.c5.alloc o).frozens); have q6 := (fun o => (hp5.c6.alloc o).cells); have f6 := (fun o => (hp5.c6.alloc o).frozens); have q7 := (fun o => (hp5.c7.alloc o).cells); have f7 := (fun o => (hp5.c7.alloc o).frozens); have HP5 := Lib.hid hp5; have hlk : ∀ o, (Instr.lookup 66 (.map (some (w.heap.size + 4))) (.int .i64 id) false).run Tryd.prog (w5.alloc o) = .ok (.bool false) (w5.alloc o) := (fun o => by have := (hp5.sm.alloc o).look id HWF.out; rw [decide_eq_false hin] at this; exact this); clear ho hb hp5))
            case qc1 => rfl
            case qc2 => intro j u hj; exact alloc_at w6 _ _ j u hj
            case qc3 => intro u hu; simp only [List.mem_cons, List.not_mem_nil, or_false] at hu; rcases hu with rfl | rfl | rfl | rfl | rfl | rfl | rfl <;> rfl
            case qc4 => unfold maxLen; omega
            case qc5 => omega
            case qc6 => simp; omega
            intro v8 w8 ho8 hg8 _
            obtain ⟨A8, c8, rfl⟩ := own_slice ho8
            have s8 := hg8.size
            rw [World.size_alloc] at s8
            have hob : ∀ r, (Value.slice A2 out.length c2).ownBlock = some r → w2.heap.size + 3 ≤ r := fun r e => own_base HOW.out.own r e
            have k8 := (HK5.out.alloc (.cells #[.int .i64 id, .bool f.i, .bool f.s, .bool f.m, .bool f.o, .bool f.l, .slice A5 pp.length c5] 26)).grown hg8 (fun e => by have := hob _ e.symm; omega)
            have q8 := k8.cells
            have f8 := k8.frozens
            have HO8 := Lib.hid ho8
            have HG8 := Lib.hid hg8
            have HOB := Lib.hid hob
            clear ho8 hg8 k8 hob
            gi_wp2
            have hx : (out.length + 1 : Nat) = (pre ++ [((k, b), Value.slice A3 b.length c3)]).length := by rw [HR1.out]; simp
            refine ⟨?_, .slice A8 (out.length + 1) c8, out ++ [((⟨id, f, pp⟩ : Ru), A5, c5)], whole - ((b.length : Int) + 1), HP5.out.push HS6.out HG6.out HG8.out HO8.out (own_mono HO.out (by rw [HSZ.out]; omega)) ⟨hpp, HWF.out⟩ (by omega) (by omega) (by omega) (by omega) (by omega) (by omega) (by omega) (by omega) (by omega) (by omega) (by omega) (by omega) (by omega) (by omega) (by omega) (by omega) (by omega) (by omega), by rw [← hx]; simp, by simp; omega, by have := HW.out; omega, by omega, ?_, fun rest => ?_⟩
            · refine (HK0.out _ _ _ (by simp; omega)).trans ((KeptOn.of_below HB5.out).trans ((KeptOn.alloc _ _).trans ((KeptOn.grown HG6.out (fun r e hk => ?_)).trans ((KeptOn.alloc _ _).trans ((KeptOn.grown HG8.out (fun r e hk => ?_)).trans (HK0.out _ _ _ (by simp; omega)))))))
              · have h1 := (HKB.out _ hk).1
                injection e with e
                omega
              · have h1 := (HKB.out _ hk).2
                have h2 := HOB.out r e
                omega
            · have b5 := below_then (HB.out.setCell (p := ⟨w.heap.size + 6, 0, none⟩) (by simp) _) HB5.out (by rw [HSZ.out]; exact hws)
              have b6 := Below.grown (b5.alloc (by omega) (.cells #[.int .i64 id, .bool f.i, .bool f.s, .bool f.m, .bool f.o, .bool f.l, .slice A5 pp.length c5] 26)) HG6.out (by simp; omega) (fun r e => by injection e with e; omega)
              have b8 := Below.grown (b6.alloc (by omega) _) HG8.out (by simp; omega) (fun r e => by have := HOB.out r e; omega)
              exact b8.setCell (p := ⟨w.heap.size + 3, 0, none⟩) (by simp) _
            · have h1 := HR5.out (b :: rest)
              rw [parseGo, if_neg HA.out, ← HL.out, if_neg (by simp), if_neg (by have := HW.out; omega), if_neg (by rw [List.map_map]; exact hin)] at h1
              have h2 : (1 : Int) + ((pre ++ [((k, b), Value.slice A3 b.length c3)]).length : Int) = 1 + (pre.length : Int) + 1 := by simp; omega
              rw [h2, List.map_append, List.map_cons, List.map_nil]
              simpa [lns, LineR.ru] using h1
      · have he := bne_iff_ne.2 h0
        clear hL
        gi_wp2_with (gi_at_call 34; refine (callsIn_wide.2 (parseLine_lit _ A3 c3 b (HRD7.out _) (by omega) h4 id f pp at_ er HL.out)).mono ?_; rintro e w5 ⟨A5, c5, rfl, ho, hb⟩; have HO := Lib.hid ho; have HB5 := Lib.hid hb; have hp5 := HP7.out.far (grown_below hb) (b := W.heap.size) (fun r e => by cases e) (by omega) (by omega) (by omega) (by omega) (by omega) (by omega) (by omega); have s5 : W.heap.size ≤ w5.heap.size := (by have h1 := hb.size; rw [HSZ.out] at h1; exact h1); have q2 := (fun o => (hp5.c2.alloc o).cells); have f2 := (fun o => (hp5.c2.alloc o).frozens); have q3 := (fun o => (hp5.c3.alloc o).cells); have f3 := (fun o => (hp5.c3.alloc o).frozens); have q4 := (fun o => (hp5.c4.alloc o).cells); have f4 := (fun o => (hp5.c4.alloc o).frozens); have q5 := (fun o => (hp5.c5.alloc o).cells); have f5 := (fun o => (hp5.c5.alloc o).frozens); have q6 := (fun o => (hp5.c6.alloc o).cells); have f6 := (fun o => (hp5.c6.alloc o).frozens); have q7 := (fun o => (hp5.c7.alloc o).cells); have f7 := (fun o => (hp5.c7.alloc o).frozens); have HP5 := Lib.hid hp5; clear ho hb hp5)
        have hfin := HERR.out w5 (.cells #[.int .i64 id, .bool f.i, .bool f.s, .bool f.m, .bool f.o, .bool f.l, .slice A5 pp.length c5] 26) er HB5.out (fun rest => by rw [parseGo, if_neg HA.out, ← HL.out, if_pos h0])
        exact ⟨hfin.1, rfl, hfin.2⟩
  case done =>
    rintro xs W hxs ⟨v, out, whole, hp, r1, r2, r3, r4, hb, r5⟩ hD
    obtain ⟨A2, c2, rfl⟩ := own_slice hp.ow.own
    have q2 := hp.c2.cells
    have q3 := hp.c3.cells
    have q4 := hp.c4.cells
    have q5 := hp.c5.cells
    have f2 := hp.c2.frozens
    have f3 := hp.c3.frozens
    have f4 := hp.c4.frozens
    have HP := Lib.hid hp
    have HB := Lib.hid hb
    have HD := Lib.hid hD
    have HX := Lib.hid hxs
    have HR1 := Lib.hid r1
    have HR5 := Lib.hid r5
    clear hp hb hD hxs r1 r5
    gi_wp2
    have n2 : w.heap.size ≠ w2.heap.size := by omega
    have n3 : w.heap.size + 1 ≠ w2.heap.size := by omega
    have n4 : w.heap.size + 2 ≠ w2.heap.size := by omega
    have hd := (Below.heap_setCell (((W.setCell ⟨w.heap.size, 0, none⟩ (.slice A2 out.length c2)).setCell ⟨w.heap.size + 1, 0, none⟩ (.int .i64 0))) ⟨w.heap.size + 2, 0, none⟩ (.int .i64 0) w2.heap.size n4.symm).trans ((Below.heap_setCell ((W.setCell ⟨w.heap.size, 0, none⟩ (.slice A2 out.length c2))) ⟨w.heap.size + 1, 0, none⟩ (.int .i64 0) w2.heap.size n3.symm).trans ((Below.heap_setCell W ⟨w.heap.size, 0, none⟩ (.slice A2 out.length c2) w2.heap.size n2.symm).trans HD.out))
    have hx := HP.out.tell (w.heap.size + 1) A2 out.length c2 (by omega) (by omega) (by omega) 0 0
    refine ⟨by simp, .inl ⟨_, _, rfl, run_takeDeferred hd, ?_⟩⟩
    refine ⟨_, parse_results rfl rfl rfl (hx.1.putObj n2 _) (hx.2.1.putObj n3 _) (hx.2.2.putObj n4 _), ?_⟩
    have hL := lns_all HX.out
    have hM := HR5.out []
    rw [List.append_nil, hL] at hM
    have hM2 : parseM p = (out.map (·.1), 0, 0) := hM
    rw [hM2]
    have how := (((HP.out.ow.set (p := ⟨w.heap.size, 0, none⟩) (by simp; omega) (.slice A2 out.length c2)).set (p := ⟨w.heap.size + 1, 0, none⟩) (by simp; omega) (.int .i64 0)).set (p := ⟨w.heap.size + 2, 0, none⟩) (by simp; omega) (.int .i64 0))
    refine ⟨⟨A2, c2, out, rfl, rfl, (how.far (grownBy_putObj' _ _ _) (fun r e => by injection e with e; omega)).reads⟩, ?_⟩
    exact Below.grown (((HB.out.setCell (p := ⟨w.heap.size, 0, none⟩) (by simp) _).setCell (p := ⟨w.heap.size + 1, 0, none⟩) (by simp) _).setCell (p := ⟨w.heap.size + 2, 0, none⟩) (by simp) _) (grownBy_putObj' _ _ _) (by simp [World.setCell]; exact HB.out.size) (fun r e => by injection e with e; omega)
  case stop =>
    rintro c pre W hpre ⟨rfl, pre0, x, e, r1, hp, hb, r5⟩ hD
    have q2 := hp.c2.cells
    have q3 := hp.c3.cells
    have q4 := hp.c4.cells
    have HP := Lib.hid hp
    have HB := Lib.hid hb
    have HD := Lib.hid hD
    have HX := Lib.hid hpre
    have HR1 := Lib.hid r1
    have HR5 := Lib.hid r5
    clear hp hb hD hpre r1 r5
    gi_wp2
    have n2 : w.heap.size ≠ w2.heap.size := by omega
    have n3 : w.heap.size + 1 ≠ w2.heap.size := by omega
    have n4 : w.heap.size + 2 ≠ w2.heap.size := by omega
    refine ⟨by simp, .inl ⟨_, _, rfl, run_takeDeferred HD.out, ?_⟩⟩
    refine ⟨_, parse_results rfl rfl rfl (HP.out.c2.putObj n2 _) (HP.out.c3.putObj n3 _) (HP.out.c4.putObj n4 _), ?_⟩
    obtain ⟨rest, hr⟩ := lns_some HX.out
    have hn := last_num (HR1.out ▸ HX.out)
    have hM : parseM p = ([], 1 + (pre0.length : Int), e) := by
      unfold parseM
      rw [hr]
      exact HR5.out rest
    rw [hM, hn]
    refine ⟨⟨none, 0, [], by simp, rfl, ⟨fun h => by simp at h, fun x h => by simp at h⟩⟩, Below.grown HB.out (grownBy_putObj' _ _ _) HB.out.size (fun r e => by injection e with e; omega)⟩
end Go.Proofs.YtkfjnllbjlndlaaDoor
