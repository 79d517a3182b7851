/- rule.CheckAll. -/
import Derived.Test.YtkfjnllbjlndlaaDoorRuB
import Derived.Test.YtkfjnllbjlndlaaDoorRuM
namespace Go.Proofs.YtkfjnllbjlndlaaDoor
open Go.RowKit

/-- A rule, and where its pattern lies. -/
abbrev RV := Ru × Option Addr × Nat
def RV.cs (x : RV) : Array Value := x.1.cells x.2.1 x.2.2
/-- A slice that reads as these rules. -/
structure RdRs (W : World) (B : Nat) (A : Option Addr) (l : List RV) : Prop where
  rows : 0 < l.length → ∃ ad, A = some ad ∧ ad.block < B ∧ ∀ (k : Nat) (x : RV), l[k]? = some x → ∀ (i : Nat) (u : Value), x.cs[i]? = some u → W.cell? (ad.add (k * 7 + i)) = some u
  pats : ∀ x ∈ l, RdB W B x.2.1 x.1.p ∧ x.1.p.length ≤ x.2.2 ∧ x.1.p.length ≤ 140737488351232 ∧ (Lit.int .i64 x.1.id).wf = true
theorem RdRs.below {W W' : World} {B : Nat} {A : Option Addr} {l : List RV} (h : RdRs W B A l) (hb : Below B W W') : RdRs W' B A l where
  rows := fun hn => by
    obtain ⟨ad, e, hB, hc⟩ := h.rows hn
    exact ⟨ad, e, hB, fun k x hx i u hu => (hb.cell (by rw [block_of_add]; exact hB)).trans (hc k x hx i u hu)⟩
  pats := fun x hx => ⟨Reads.below (h.pats x hx).1 hb, (h.pats x hx).2⟩

theorem RdRs.at7 {W : World} {B : Nat} {A : Option Addr} {l : List RV} (h : RdRs W B A l) {k : Nat} {x : RV} (hx : l[k]? = some x) : ∃ ad, A = some ad ∧ ad.block < B ∧
    (W.cell? (ad.add (k * 7)) = some (.int .i64 x.1.id) ∧ W.cell? ⟨(ad.add (k * 7)).block, (ad.add (k * 7)).off + 1, none⟩ = some (.bool x.1.f.i) ∧ W.cell? ⟨(ad.add (k * 7)).block, (ad.add (k * 7)).off + 2, none⟩ = some (.bool x.1.f.s) ∧ W.cell? ⟨(ad.add (k * 7)).block, (ad.add (k * 7)).off + 3, none⟩ = some (.bool x.1.f.m) ∧ W.cell? ⟨(ad.add (k * 7)).block, (ad.add (k * 7)).off + 4, none⟩ = some (.bool x.1.f.o) ∧ W.cell? ⟨(ad.add (k * 7)).block, (ad.add (k * 7)).off + 5, none⟩ = some (.bool x.1.f.l) ∧ W.cell? ⟨(ad.add (k * 7)).block, (ad.add (k * 7)).off + 6, none⟩ = some (.slice x.2.1 x.1.p.length x.2.2)) := by
  have hk : k < l.length := (List.getElem?_eq_some_iff.1 hx).1
  obtain ⟨ad, e, hb, hc⟩ := h.rows (by omega)
  have key : ∀ (i : Nat) (u : Value), 0 < i → x.cs[i]? = some u → W.cell? ⟨(ad.add (k * 7)).block, (ad.add (k * 7)).off + i, none⟩ = some u := by
    intro i u hi hu
    have h1 := hc k x hx i u hu
    rw [← add_of_add] at h1
    rw [← h1]
    congr 1
    show _ = (if i = 0 then _ else _)
    rw [if_neg (by omega)]
  exact ⟨ad, e, hb, hc k x hx 0 _ rfl, key 1 _ (by omega) rfl, key 2 _ (by omega) rfl, key 3 _ (by omega) rfl, key 4 _ (by omega) rfl, key 5 _ (by omega) rfl, key 6 _ (by omega) rfl⟩
theorem check_lit (w : World) (a : Ru) (A1 : Option Addr) (c1 : Nat) (h : RdB w w.heap.size A1 a.p) :
    Calls Tryd.prog 35 #[.agg #[.int .i64 a.id, .bool a.f.i, .bool a.f.s, .bool a.f.m, .bool a.f.o, .bool a.f.l, .slice A1 a.p.length c1]] w fun e w' => e = .returned (.int .i64 a.chk) ∧ Below w.heap.size w w' := check_any w a A1 c1 h

/-- Which of some rules is wrong: how many stand ahead of it, and what is wrong. -/
def chkGo : List Ru → List Int → Int → Int × Int
  | [], _, k => (k, 0)
  | r :: rs, seen, k => if r.chk ≠ 0 then (k, r.chk) else if r.id ∈ seen then (k, 5) else chkGo rs (seen ++ [r.id]) (k + 1)
def chkAll (l : List Ru) : Int × Int := if 1024 < l.length then (1024, 3) else chkGo l [] 0

set_option maxRecDepth 100000 in
set_option maxHeartbeats 4000000 in
theorem checkAll_any (w : World) (A : Option Addr) (c : Nat) (l : List RV) (h : RdRs w w.heap.size A l) :
    Calls Tryd.prog 16 #[.slice A l.length c] w fun e w' => e = .returned (.tuple #[.int .i64 (chkAll (l.map (·.1))).1, .int .i64 (chkAll (l.map (·.1))).2]) ∧ Below w.heap.size w w' := by
  have HR := Lib.hid h
  clear h
  by_cases hl : 1024 < l.length
  · have hli : (1024 : Int) < (l.length : Int) := by omega
    have e1 : chkAll (l.map (·.1)) = (1024, 3) := by unfold chkAll; rw [if_pos (by rw [List.length_map]; exact hl)]
    rw [e1]
    clear e1
    go_enter Tryd.func16, Tryd.ntmps16
    go_wp2
    go_ret2
    exact ⟨rfl, Below.refl _ _⟩
  · have hli : ¬ (1024 : Int) < (l.length : Int) := by omega
    have e1 : chkAll (l.map (·.1)) = chkGo (l.map (·.1)) [] 0 := by unfold chkAll; rw [if_neg (by rw [List.length_map]; exact hl)]
    have HE0 := Lib.hid e1
    clear e1
    have hmm := @run_makeMap Tryd.prog
    go_enter Tryd.func16, Tryd.ntmps16
    go_wp2
    go_loopw [14] (fun q wr => ∃ (k : Nat) (seen : List Int) (n : Nat), q = .int .i64 k ∧ k ≤ l.length ∧ n ≤ k ∧ Below w.heap.size w wr ∧ SeenM wr w.heap.size n seen ∧ chkGo (l.map (·.1)) [] 0 = chkGo ((l.drop k).map (·.1)) seen k) (fun q _ => l.length - (intOf q).toNat)
    case atStart => exact ⟨0, [], 0, rfl, Nat.zero_le _, Nat.le_refl _, (Below.refl _ _).alloc (Nat.le_refl _) _, SeenM.new w, rfl⟩
    case round =>
      obtain ⟨k, seen, n, rfl, hk, hn, hB, hS, hT⟩ := hrel
      have HB := Lib.hid hB
      have HS := Lib.hid hS
      have HT := Lib.hid hT
      clear hB hS hT hmm
      by_cases hlt : k < l.length
      · obtain ⟨x, hx⟩ : ∃ x, l[k]? = some x := ⟨_, List.getElem?_eq_getElem hlt⟩
        obtain ⟨hpr, _, _, hwf⟩ := HR.out.pats x (List.mem_of_getElem? hx)
        obtain ⟨ad, rfl, hab, p0, p1, p2, p3, p4, p5, p6⟩ := (HR.out.below HB.out).at7 hx
        obtain ⟨⟨id, f, p⟩, Ap, cp⟩ := x
        simp only at p0 p1 p2 p3 p4 p5 p6 hpr hwf
        have HX := Lib.hid hx
        have HP := Lib.hid (show ∀ o, RdB (wr.alloc o) (wr.alloc o).heap.size Ap p from fun o => Reads.more (Reads.alloc (Reads.below hpr HB.out) HB.out.size _) (by simp; have := HB.out.size; omega))
        have HWF := Lib.hid hwf
        obtain ⟨e, he⟩ : ∃ e, e = (⟨id, f, p⟩ : Ru).chk := ⟨_, rfl⟩
        have HE := Lib.hid he
        have hstep : chkGo ((l.drop k).map (·.1)) seen k = if e ≠ 0 then ((k : Int), e) else if id ∈ seen then ((k : Int), 5) else chkGo ((l.drop (k + 1)).map (·.1)) (seen ++ [id]) ((k : Int) + 1) := by
          rw [List.drop_eq_getElem_cons hlt]
          have : l[k] = (⟨id, f, p⟩, Ap, cp) := by rw [List.getElem?_eq_getElem hlt] at hx; injection hx
          rw [this]
          simp only [List.map_cons, chkGo, he]
        have HST := Lib.hid hstep
        clear hx hpr hwf he hstep
        by_cases h0 : e = 0
        · subst h0
          by_cases hin : id ∈ seen
          · go_wp2_with (go_at_call 35; (with_reducible refine (check_lit _ ⟨id, f, p⟩ Ap cp (HP.out _)).mono ?_); rintro e w1 ⟨rfl, hb⟩; rw [← HE.out]; have HB1 := Lib.hid hb; have hk1 := ((Bk.new wr 26 ((⟨id, f, p⟩ : Ru).cells Ap cp)).kept hb).cells 0; have hlk := ((HS.out.alloc (.cells ((⟨id, f, p⟩ : Ru).cells Ap cp) 26)).below hb).look id HWF.out; have HS1 := Lib.hid ((HS.out.alloc (.cells ((⟨id, f, p⟩ : Ru).cells Ap cp) 26)).below hb); rw [decide_eq_true hin] at hlk; clear hb; simp only [Ru.cells] at hk1)
            go_ret2
            rw [HE0.out, HT.out, HST.out, if_neg (by simp), if_pos hin]
            exact ⟨rfl, below_then (HB.out.alloc HB.out.size _) HB1.out (by have := HB.out.size; simp; omega)⟩
          · go_wp2_with (first | (at_mapUpdate; refine wpList_seen_put _ rfl _ _ _ rfl w.heap.size n seen id rfl rfl rfl HS1.out (by omega) HWF.out ?_; intro w2 hs2 hg2; have HS2 := Lib.hid hs2; have HG2 := Lib.hid hg2; clear hs2 hg2 hlk hk1) | (go_at_call 35; (with_reducible refine (check_lit _ ⟨id, f, p⟩ Ap cp (HP.out _)).mono ?_); rintro e w1 ⟨rfl, hb⟩; rw [← HE.out]; have HB1 := Lib.hid hb; have hk1 := ((Bk.new wr 26 ((⟨id, f, p⟩ : Ru).cells Ap cp)).kept hb).cells 0; have hlk := ((HS.out.alloc (.cells ((⟨id, f, p⟩ : Ru).cells Ap cp) 26)).below hb).look id HWF.out; have HS1 := Lib.hid ((HS.out.alloc (.cells ((⟨id, f, p⟩ : Ru).cells Ap cp) 26)).below hb); rw [decide_eq_false hin] at hlk; clear hb; simp only [Ru.cells] at hk1))
            refine ⟨⟨k + 1, seen ++ [id], n + 1, by go_num, hlt, by omega, ?_, HS2.out, ?_⟩, by simp only [intOf]; omega⟩
            · exact Below.grown (below_then (HB.out.alloc HB.out.size _) HB1.out (by have := HB.out.size; simp; omega)) HG2.out (by have := HB.out.size; have := HB1.out.size; simp at this; omega) (fun q e => by injection e with e; omega)
            · rw [HT.out, HST.out, if_neg (by simp), if_neg hin]
              congr 1
        · have he1 := bne_iff_ne.2 h0
          go_wp2_with (go_at_call 35; (with_reducible refine (check_lit _ ⟨id, f, p⟩ Ap cp (HP.out _)).mono ?_); rintro e w1 ⟨rfl, hb⟩; rw [← HE.out]; have HB1 := Lib.hid hb; clear hb)
          go_ret2
          rw [HE0.out, HT.out, HST.out, if_pos h0]
          exact ⟨rfl, below_then (HB.out.alloc HB.out.size _) HB1.out (by have := HB.out.size; simp; omega)⟩
      · obtain rfl : k = l.length := by omega
        go_wp2
        go_ret2
        rw [HE0.out, HT.out, List.drop_of_length_le (Nat.le_refl _)]
        exact ⟨rfl, HB.out⟩
end Go.Proofs.YtkfjnllbjlndlaaDoor
