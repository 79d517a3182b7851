/- riddleref20.Parse. -/
import Derived.Test.YtkfjnllbjlndlaaDoorRuS
import Derived.Test.YtkfjnllbjlndlaaDoorLnR
import Derived.Test.YtkfjnllbjlndlaaDoorRfF
import Derived.Test.YtkfjnllbjlndlaaDoorRfD
import Derived.Deep.QuietTactic
import Derived.BigQuiet
namespace Go.Proofs.YtkfjnllbjlndlaaDoor
open Go.RowKit

def endsOk (t : List UInt8) : Bool := decide (t = []) || decide (t.getLast? = some 10)
theorem glueL (n : Nat) : ∀ t : List UInt8, t.length = n → glue (linesM t) = if endsOk t = true then t else t ++ [10] := by
  induction n using Nat.strongRecOn with
  | ind n ih =>
    intro t hn
    cases t with
    | nil => rfl
    | cons c cs =>
      have ht := tailL_le (c :: cs)
      simp only [List.length_cons] at hn ht
      rw [linesM_cons (by simp)]
      have hg : glue (headL (c :: cs) :: linesM (tailL (c :: cs))) = headL (c :: cs) ++ 10 :: glue (linesM (tailL (c :: cs))) := by simp [glue]
      rw [hg]
      rcases split_index (c :: cs) with ⟨i, h1, h2, h3, h4⟩ | ⟨h1, h3, h4⟩
      · have h5 : (c :: cs) = headL (c :: cs) ++ 10 :: tailL (c :: cs) := by
          have := drop_split (c :: cs) 0 i (Nat.zero_le _) (Lib.indexByte_some h1).1
          rw [List.drop_zero, List.drop_zero] at this
          rw [h3, h4]; exact this
        have h6 := ih _ (by omega) (tailL (c :: cs)) rfl
        have h7 : endsOk (c :: cs) = endsOk (tailL (c :: cs)) := by
          conv => lhs; rw [h5]
          unfold endsOk
          cases htl : tailL (c :: cs) with
          | nil => simp
          | cons d ds => simp [List.getLast?_append, List.getLast?_cons]
        rw [h6, h7]
        split
        · exact h5.symm
        · conv => rhs; rw [h5]
          simp
      · rw [h3, h4, linesM_nil]
        have h8 : endsOk (c :: cs) = false := by
          unfold endsOk
          simp only [List.cons_ne_nil, decide_false, Bool.false_or, decide_eq_false_iff_not]
          intro hl
          have hm := List.mem_of_getLast? hl
          obtain ⟨k, hk, hke⟩ := List.mem_iff_getElem.1 hm
          exact Lib.indexByte_none h1 k (by rw [List.getElem?_eq_getElem hk, hke])
        rw [h8]
        rfl
/-- What the text's end owes. -/
def owe (t : List UInt8) : Nat := if endsOk t = true then 0 else 1
theorem glue_len (t : List UInt8) : (glue (linesM t)).length = t.length + owe t := by
  rw [glueL _ t rfl]
  unfold owe
  split <;> simp
theorem glue_cons (b : List UInt8) (bs : List (List UInt8)) : (glue (b :: bs)).length = b.length + 1 + (glue bs).length := by simp [glue]; omega
theorem glue_drop {ls : List (List UInt8)} {i : Nat} (h : i < ls.length) : (glue (ls.drop i)).length = (ls[i]).length + 1 + (glue (ls.drop (i + 1))).length := by
  rw [List.drop_eq_getElem_cons h, glue_cons]
theorem glue_pos {ls : List (List UInt8)} {i : Nat} (h : i < ls.length) : 1 ≤ (glue (ls.drop i)).length := by rw [glue_drop h]; omega

theorem rparseLine_lit (w : World) (A : Option Addr) (c : Nat) (bs : List UInt8) (h : RdB w w.heap.size A bs) (hn : bs.length ≤ 140737488351232) (hc : bs.length ≤ c) (id : Int) (f : Fl.F5) (pp : List UInt8) (at_ er : Int) (hL : (⟨id, f, pp, at_, er⟩ : LineR) = lineM bs) :
    Calls Tryd.prog 43 #[.slice A bs.length c] w fun e w' => ∃ A5 c5, e = .returned (.tuple #[.agg #[.int .i64 id, .bool f.i, .bool f.s, .bool f.m, .bool f.o, .bool f.l, .slice A5 pp.length c5], .int .i64 at_, .int .i64 er]) ∧ w'.ownsRow w.heap.size 5 1 (.slice A5 pp.length c5) pp.length (bcells pp) ∧ Below w.heap.size w w' := by
  refine (rparseLine_any w A c bs h hn hc).mono ?_
  rintro e w' ⟨v, rfl, ho, hb⟩
  rw [← hL] at ho ⊢
  obtain ⟨A5, c5, rfl⟩ := own_slice ho
  exact ⟨A5, c5, rfl, ho, hb⟩
theorem line_le {p b : List UInt8} (h : b ∈ linesM p) : b.length ≤ p.length := by
  have h1 := glue_len p
  have h2 : b.length + 1 ≤ (glue (linesM p)).length := by
    generalize linesM p = ls at h
    induction ls with
    | nil => cases h
    | cons x ls ih =>
      rcases List.mem_cons.1 h with rfl | h
      · simp [glue]
      · have := ih h
        simp [glue] at this ⊢
        omega
  unfold owe at h1
  split at h1 <;> omega

theorem owe_last {p : List UInt8} {q : Nat} (h : p.length = q + 1) : owe p = 0 ↔ p[q]? = some 10 := by
  have h1 : p.getLast? = p[q]? := by rw [List.getLast?_eq_getElem?, h]; rfl
  have h2 : p ≠ [] := fun e => by rw [e] at h; cases h
  unfold owe endsOk
  rw [h1]
  by_cases h3 : p[q]? = some 10
  · simp [h3]
  · simp [h2, h3]
theorem RdRs.nil_ (W : World) (B : Nat) : RdRs W B none [] := ⟨fun h => by simp at h, fun x h => by simp at h⟩
set_option maxRecDepth 100000 in
set_option maxHeartbeats 4000000 in
theorem rparse_any (w : World) (A : Option Addr) (c : Nat) (p : List UInt8) (h : RdB w w.heap.size A p) (hcap : p.length ≤ c) (hs : p.length ≤ 1048576) :
    Calls Tryd.prog 21 #[.slice A p.length c] w fun e w' => (∃ A' c' l, e = .returned (.tuple #[.slice A' l.length c', .int .i64 (parseM p).2.1, .int .i64 (parseM p).2.2]) ∧ l.map (·.1) = (parseM p).1 ∧ RdRs w' w'.heap.size A' l) ∧ Below w.heap.size w w' := by
  obtain ⟨i0, hi, hz0, hz1, hz2⟩ := info_parts infoRu
  have HRW := Lib.hid h
  clear h
  obtain ⟨⟨ml, mn, me⟩, hM⟩ : ∃ M, M = parseM p := ⟨_, rfl⟩
  rw [← hM]
  have HM := Lib.hid hM
  clear hM
  have HGL := Lib.hid (glue_len p)
  have HLE := Lib.hid (fun b (hb : b ∈ linesM p) => line_le hb)
  have hnl := linesM_length p
  obtain ⟨ls, hls⟩ : ∃ ls, ls = linesM p := ⟨_, rfl⟩
  have HLS := Lib.hid hls
  rw [← hls] at HGL HLE hnl
  clear hls
  go_enter Tryd.func21, Tryd.ntmps21
  go_wp2_with (go_at_call 42; refine (rlines_any w A c p HRW.out hcap hs).mono ?_; rw [← HLS.out]; rintro e w1 ⟨⟨vl, vs, rfl, ho, hsl⟩, hb⟩; obtain ⟨Al, cl, rfl⟩ := own_slice ho; have HOL := Lib.hid (own_reads ho); have HSL := Lib.hid hsl; have HB1 := Lib.hid hb; have hvl := hsl.1; clear ho hsl hb)
  rw [hvl] at HOL
  clear hvl
  obtain ⟨dl, hdl⟩ : ∃ d : Nat, d = owe p := ⟨_, rfl⟩
  have HDL := Lib.hid hdl
  have hdl1 : dl ≤ 1 := by rw [hdl]; unfold owe; split <;> omega
  clear hdl
  go_loopw [5, 7] (fun v q wr => ∃ (out : List RV) (i : Nat), q = .int .i64 i ∧ i ≤ ls.length ∧ out.length = i ∧ i ≤ 1024 ∧ Below w1.heap.size w1 wr ∧ OwnRs wr w1.heap.size v out ∧ (ml, mn, me) = parseGo (ls.drop i) (((glue (ls.drop i)).length : Int) - dl) (out.map (·.1)) ((i : Int) + 1)) (fun _ q _ => ls.length - (intOf q).toNat)
  case atStart =>
    refine ⟨[], 0, rfl, Nat.zero_le _, rfl, by omega, Below.refl _ _, OwnRs.nil_ _ _, ?_⟩
    have h1 := HGL.out
    rw [HM.out]
    unfold parseM
    rw [← HLS.out, List.drop_zero, h1, HDL.out]
    congr 1
    omega
  case round =>
    obtain ⟨out, i, rfl, hil, hoi, hi10, hB, hO, hT⟩ := hrel
    obtain ⟨A2, c2, rfl⟩ := own_slice hO.own
    have HB := Lib.hid hB
    have HO := Lib.hid hO
    have HT := Lib.hid hT
    have HOI := Lib.hid hoi
    have hws := hB.size
    have hol : out.length ≤ 1024 := by omega
    clear hB hO hT hoi
    by_cases hlt : i < ls.length
    · obtain ⟨b, hb⟩ : ∃ b, b = ls[i] := ⟨_, rfl⟩
      have hbi : ls[i]? = some b := by rw [hb, List.getElem?_eq_getElem hlt]
      obtain ⟨A3, c3, hvi, hc3, hrd3⟩ := HSL.out.2 i b hbi
      have hbl := HLE.out b (List.mem_of_getElem? hbi)
      have HRB := Lib.hid (show RdB wr wr.heap.size A3 b from Reads.more (Reads.below (Reads.below hrd3 HB1.out) (HB.out.mono HB1.out.size)) (by have := HB1.out.size; omega))
      obtain ⟨adl, eal, hadl, hcl⟩ := HOL.out.2 (by omega)
      subst eal
      have hcell : wr.cell? (adl.add i) = some (.slice A3 b.length c3) := (HB.out.cell (by rw [block_of_add]; exact hadl)).trans (hcl i _ hvi)
      have hG := glue_drop hlt
      rw [← hb] at hG
      have hdrop : ls.drop i = b :: ls.drop (i + 1) := by rw [hb]; exact List.drop_eq_getElem_cons hlt
      have HG := Lib.hid hG
      have HD := Lib.hid hdrop
      clear hb hvi hrd3 hcl hG hdrop hbi
      by_cases ha : out.length = 1024
      · have hab : ((out.length : Int) == 1024) = true := by rw [beq_iff_eq]; omega
        go_wp2
        go_ret3
        have h1 : (ml, mn, me) = ([], (i : Int) + 1, 3) := by rw [HT.out, HD.out, parseGo, if_pos (by rw [List.length_map]; omega)]
        obtain ⟨rfl, rfl, rfl⟩ : ml = [] ∧ mn = (i : Int) + 1 ∧ me = 3 := by simpa using h1
        exact ⟨⟨none, 0, [], rfl, rfl, RdRs.nil_ _ _⟩, below_then HB1.out HB.out HB1.out.size⟩
      · have hab : ((out.length : Int) == 1024) = false := by rw [beq_eq_false_iff_ne]; omega
        obtain ⟨⟨id, f, pp, at_, er⟩, hL⟩ : ∃ L, L = lineM b := ⟨_, rfl⟩
        have HL := Lib.hid hL
        by_cases h0 : er = 0
        · subst h0
          obtain ⟨hq1, hq2⟩ := lineM_inv (b := b) (by rw [← hL])
          rw [← hL] at hq1
          obtain ⟨hid1, hid2, _, hpp⟩ := chk_ok hq1
          simp only [LineR.ru] at hid1 hid2 hpp
          have HWF := Lib.hid (wf_i64 (i := id) (by omega) hid2)
          clear hq1 hq2 hL
          obtain ⟨q, hpq⟩ : ∃ q, p.length = q + 1 := ⟨p.length - 1, by omega⟩
          have hqi : (p.length : Int) - 1 = (q : Int) := by omega
          have hql : q < p.length := by omega
          obtain ⟨adp, eap, hadp, hpc⟩ := HRW.out.at_ hql
          subst eap
          have hol2 := owe_last hpq
          have HPQ := Lib.hid hpq
          have HOL2 := Lib.hid hol2
          clear hpq hol2
          have hcw : ∀ W, Below w1.heap.size w1 W → W.cell? (adp.add q) = some (.int .u8 (p[q]).toNat) := fun W hb => (hb.cell (by rw [block_of_add]; have := HB1.out.size; omega)).trans ((HB1.out.cell (by rw [block_of_add]; exact hadp)).trans hpc)
          have HCW := Lib.hid hcw
          clear hcw hpc
          by_cases hlast : i + 1 = ls.length
          · have hli : ((i : Int) == (ls.length : Int) - 1) = true := by rw [beq_iff_eq]; omega
            have HLA := Lib.hid hlast
            clear hlast
            by_cases h10 : p[q] = 10
            · have HW := Lib.hid (show ¬ ((glue (b :: ls.drop (i + 1))).length : Int) - dl - ((b.length : Int) + 1) < 0 by
                have h1 : dl = 0 := by rw [HDL.out]; exact HOL2.out.2 (by rw [List.getElem?_eq_getElem hql, h10])
                rw [glue_cons]; omega)
              have h10' : ((p[q]).toNat : Int) = 10 := by rw [h10]; rfl
              rw [h10'] at HCW
              clear h10 h10'
              go_wp2_with (go_at_call 43; refine (rparseLine_lit _ A3 c3 b HRB.out (by omega) hc3 id f pp at_ 0 HL.out).mono ?_; rintro e w5 ⟨A5, c5, rfl, ho, hb⟩; have HO5 := Lib.hid ho; have HB5 := Lib.hid hb; have hpc := HCW.out (w5.alloc (.cells #[.int .i64 id, .bool f.i, .bool f.s, .bool f.m, .bool f.o, .bool f.l, .slice A5 pp.length c5] 26)) ((below_then HB.out hb (by omega)).alloc (by have := hb.size; omega) _); clear ho hb)
              have hs5 := HB5.out.size
              obtain ⟨g6, hg6⟩ : ∃ g, g = w5.heap.size := ⟨_, rfl⟩
              obtain ⟨W6, hW6⟩ : ∃ W, W = w5.alloc (.cells #[.int .i64 id, .bool f.i, .bool f.s, .bool f.m, .bool f.o, .bool f.l, .slice A5 pp.length c5] 26) := ⟨_, rfl⟩
              have KR := Lib.hid (show Bk W6 g6 26 #[.int .i64 id, .bool f.i, .bool f.s, .bool f.m, .bool f.o, .bool f.l, .slice A5 pp.length c5] by rw [hW6, hg6]; exact Bk.new _ _ _)
              have hs6 : W6.heap.size = w5.heap.size + 1 := by rw [hW6]; simp
              have HB6 := Lib.hid (show Below w1.heap.size w1 W6 by rw [hW6]; exact (below_then HB.out HB5.out (by omega)).alloc (by omega) _)
              have HO6 := Lib.hid (show OwnRs W6 w1.heap.size (.slice A2 out.length c2) out by rw [hW6]; exact (HO.out.below HB5.out).alloc _)
              have HP6 := Lib.hid (show W6.ownsRow w1.heap.size 5 1 (.slice A5 pp.length c5) pp.length (bcells pp) by rw [hW6]; exact own_mono (HO5.out.alloc _) hws)
              have hg61 : g6 < W6.heap.size := by omega
              rw [← hW6, ← hg6]
              have hs61 : w1.heap.size ≤ W6.heap.size := by omega
              clear hW6 hs6 hs5 hg6
              go_loopw [11] (fun q wr => ∃ k : Nat, q = .int .i64 k ∧ k ≤ out.length ∧ Below W6.heap.size W6 wr ∧ ∀ j, j < k → (out.map (·.1.id))[j]? ≠ some id) (fun q _ => out.length - (intOf q).toNat)
              case atStart => exact ⟨0, rfl, Nat.zero_le _, Below.refl _ _, fun j hj => by omega⟩
              case round =>
                obtain ⟨k, rfl, hk, hB2, hno⟩ := hrel
                have HB2 := Lib.hid hB2
                have HNO := Lib.hid hno
                have hs2 := hB2.size
                clear hB2 hno
                have r0 := (KR.out.kept HB2.out).cells
                have HKR := Lib.hid (KR.out.kept HB2.out)
                by_cases hkl : k < out.length
                · obtain ⟨y, hy⟩ : ∃ y, out[k]? = some y := ⟨_, List.getElem?_eq_getElem hkl⟩
                  obtain ⟨ad, eA, hab, q0, _⟩ := (HO6.out.below HB2.out).reads.at7 hy
                  subst eA
                  have hyi := ids_at hy
                  have p0 : wr.cell? ⟨g6, 0, none⟩ = some (.int .i64 id) := r0 0
                  obtain ⟨⟨id', f', p'⟩, Ap', cp'⟩ := y
                  simp only at q0 hyi
                  have HY := Lib.hid hyi
                  clear hyi hy r0
                  by_cases heq : id' = id
                  · subst heq
                    have hbb : (id' == id') = true := beq_self_eq_true id'
                    go_wp2
                    go_quiet (fail)
                    go_wp2
                    go_ret3
                    have h1 : (ml, mn, me) = ([], (i : Int) + 1, 5) := by
                      rw [HT.out, HD.out, parseGo, if_neg (by rw [List.length_map]; omega), ← HL.out, if_neg (by simp), if_neg (by have := HW.out; omega), if_pos (by rw [List.map_map]; exact List.mem_of_getElem? HY.out)]
                    obtain ⟨rfl, rfl, rfl⟩ : ml = [] ∧ mn = (i : Int) + 1 ∧ me = 5 := by simpa using h1
                    exact ⟨⟨none, 0, [], rfl, rfl, RdRs.nil_ _ _⟩, below_drewN' (below_then HB1.out (below_then HB6.out HB2.out hs61) HB1.out.size) _⟩
                  · have hne := beq_eq_false_iff_ne.2 heq
                    go_wp2
                    go_quiet (fail)
                    go_wp2
                    refine ⟨⟨k + 1, by go_num, hkl, below_drewN' HB2.out _, fun j hj => ?_⟩, by simp only [intOf]; omega⟩
                    by_cases hjk : j = k
                    · subst hjk
                      rw [HY.out]
                      intro e
                      injection e with e
                      exact heq e
                    · exact HNO.out j (by omega)
                · obtain rfl : k = out.length := by omega
                  have HP2 := Lib.hid (own_below HP6.out HB2.out)
                  have HO2 := Lib.hid (HO6.out.below HB2.out)
                  go_wp2_with (at_builtin; refine wpList_append_own _ rfl _ _ 34 rfl w1.heap.size 26 i0 (.agg #[.int .i64 0, .bool false, .bool false, .bool false, .bool false, .bool false, .slice none 0 0]) 7 40 Tryd.underlying34 hi hz0 hz1 hz2 rfl (by decide) _ out.length (out.flatMap fun x => x.cs.toList) rfl (HO2.out.own.alloc _) ⟨wr.heap.size, 0, none⟩ 1 1 [.int .i64 id, .bool f.i, .bool f.s, .bool f.m, .bool f.o, .bool f.l, .slice A5 pp.length c5] rfl ?qc1 ?qc2 ?qc3 ?qc4 ?qc5 ?qc6 ?_)
                  case qc1 => rfl
                  case qc2 => intro j u hj; exact alloc_at wr _ _ j u hj
                  case qc3 => intro u hu; simp only [List.mem_cons, List.not_mem_nil, or_false] at hu; rcases hu with rfl | rfl | rfl | rfl | rfl | rfl | rfl <;> rfl
                  case qc4 => unfold maxLen; omega
                  case qc5 => omega
                  case qc6 => simp; omega
                  intro v8 w8 ho8 hg8 _
                  have HO8 := Lib.hid ho8
                  have HG8 := Lib.hid hg8
                  clear ho8 hg8 r0
                  go_wp2
                  have hni : ¬ id ∈ (out.map (·.1)).map (·.id) := by
                    rw [List.map_map]
                    intro hm
                    obtain ⟨j, hj⟩ := List.mem_iff_getElem?.1 hm
                    have hjl := (List.getElem?_eq_some_iff.1 hj).1
                    rw [List.length_map] at hjl
                    exact HNO.out j hjl hj
                  refine ⟨⟨out ++ [((⟨id, f, pp⟩ : Ru), A5, c5)], i + 1, by go_num, hlt, by simp [HOI.out], by have := HOI.out; omega, ?_, ?_, ?_⟩, by simp only [intOf]; omega⟩
                  · exact Below.grown ((below_then HB6.out HB2.out hs61).alloc (by omega) _) HG8.out (by simp; omega) (fun r e => own_base HO2.out.own r e)
                  · exact (HO2.out.alloc _).snoc HG8.out HO8.out (HP2.out.alloc _) ⟨hpp, HWF.out⟩
                  · have h1 := HT.out
                    rw [HD.out, parseGo, if_neg (by rw [List.length_map]; omega), ← HL.out, if_neg (by simp), if_neg (by have := HW.out; omega), if_neg hni] at h1
                    rw [h1, List.map_append, glue_cons]
                    congr 1
                    omega
            · have hcf := u8_lit' p[q] 10 (by omega) h10
              have HW := Lib.hid (show ((glue (b :: ls.drop (i + 1))).length : Int) - dl - ((b.length : Int) + 1) < 0 by
                have h1 : dl = 1 := by
                  have h2 := HOL2.out
                  have h3 : dl ≠ 0 := fun e => h10 (by have := h2.1 (HDL.out ▸ e); rw [List.getElem?_eq_getElem hql] at this; exact Option.some.inj this)
                  omega
                have h4 := HLA.out
                rw [glue_cons, List.drop_of_length_le (by omega)]
                simp [glue]
                omega)
              clear h10
              go_wp2_with (go_at_call 43; refine (rparseLine_lit _ A3 c3 b HRB.out (by omega) hc3 id f pp at_ 0 HL.out).mono ?_; rintro e w5 ⟨A5, c5, rfl, ho, hb⟩; have HO5 := Lib.hid ho; have HB5 := Lib.hid hb; have hpc := HCW.out (w5.alloc (.cells #[.int .i64 id, .bool f.i, .bool f.s, .bool f.m, .bool f.o, .bool f.l, .slice A5 pp.length c5] 26)) ((below_then HB.out hb (by omega)).alloc (by have := hb.size; omega) _); clear ho hb)
              go_ret3
              have h1 : (ml, mn, me) = ([], (i : Int) + 1, 201) := by rw [HT.out, HD.out, parseGo, if_neg (by rw [List.length_map]; omega), ← HL.out, if_neg (by simp), if_pos HW.out]
              obtain ⟨rfl, rfl, rfl⟩ : ml = [] ∧ mn = (i : Int) + 1 ∧ me = 201 := by simpa using h1
              exact ⟨⟨none, 0, [], rfl, rfl, RdRs.nil_ _ _⟩, (below_then (below_then HB1.out HB.out HB1.out.size) HB5.out (by have := HB1.out.size; omega)).alloc (by have := HB1.out.size; have := HB5.out.size; omega) _⟩
          · have hli : ((i : Int) == (ls.length : Int) - 1) = false := by rw [beq_eq_false_iff_ne]; omega
            have HW := Lib.hid (show ¬ ((glue (b :: ls.drop (i + 1))).length : Int) - dl - ((b.length : Int) + 1) < 0 by
              have h1 := glue_pos (ls := ls) (i := i + 1) (by omega)
              rw [glue_cons]; omega)
            clear hlast
            go_wp2_with (go_at_call 43; refine (rparseLine_lit _ A3 c3 b HRB.out (by omega) hc3 id f pp at_ 0 HL.out).mono ?_; rintro e w5 ⟨A5, c5, rfl, ho, hb⟩; have HO5 := Lib.hid ho; have HB5 := Lib.hid hb; clear ho hb)
            have hs5 := HB5.out.size
            obtain ⟨g6, hg6⟩ : ∃ g, g = w5.heap.size := ⟨_, rfl⟩
            obtain ⟨W6, hW6⟩ : ∃ W, W = w5.alloc (.cells #[.int .i64 id, .bool f.i, .bool f.s, .bool f.m, .bool f.o, .bool f.l, .slice A5 pp.length c5] 26) := ⟨_, rfl⟩
            have KR := Lib.hid (show Bk W6 g6 26 #[.int .i64 id, .bool f.i, .bool f.s, .bool f.m, .bool f.o, .bool f.l, .slice A5 pp.length c5] by rw [hW6, hg6]; exact Bk.new _ _ _)
            have hs6 : W6.heap.size = w5.heap.size + 1 := by rw [hW6]; simp
            have HB6 := Lib.hid (show Below w1.heap.size w1 W6 by rw [hW6]; exact (below_then HB.out HB5.out (by omega)).alloc (by omega) _)
            have HO6 := Lib.hid (show OwnRs W6 w1.heap.size (.slice A2 out.length c2) out by rw [hW6]; exact (HO.out.below HB5.out).alloc _)
            have HP6 := Lib.hid (show W6.ownsRow w1.heap.size 5 1 (.slice A5 pp.length c5) pp.length (bcells pp) by rw [hW6]; exact own_mono (HO5.out.alloc _) hws)
            have hg61 : g6 < W6.heap.size := by omega
            rw [← hW6, ← hg6]
            have hs61 : w1.heap.size ≤ W6.heap.size := by omega
            clear hW6 hs6 hs5 hg6
            go_loopw [11] (fun q wr => ∃ k : Nat, q = .int .i64 k ∧ k ≤ out.length ∧ Below W6.heap.size W6 wr ∧ ∀ j, j < k → (out.map (·.1.id))[j]? ≠ some id) (fun q _ => out.length - (intOf q).toNat)
            case atStart => exact ⟨0, rfl, Nat.zero_le _, Below.refl _ _, fun j hj => by omega⟩
            case round =>
              obtain ⟨k, rfl, hk, hB2, hno⟩ := hrel
              have HB2 := Lib.hid hB2
              have HNO := Lib.hid hno
              have hs2 := hB2.size
              clear hB2 hno
              have r0 := (KR.out.kept HB2.out).cells
              have HKR := Lib.hid (KR.out.kept HB2.out)
              by_cases hkl : k < out.length
              · obtain ⟨y, hy⟩ : ∃ y, out[k]? = some y := ⟨_, List.getElem?_eq_getElem hkl⟩
                obtain ⟨ad, eA, hab, q0, _⟩ := (HO6.out.below HB2.out).reads.at7 hy
                subst eA
                have hyi := ids_at hy
                have p0 : wr.cell? ⟨g6, 0, none⟩ = some (.int .i64 id) := r0 0
                obtain ⟨⟨id', f', p'⟩, Ap', cp'⟩ := y
                simp only at q0 hyi
                have HY := Lib.hid hyi
                clear hyi hy r0
                by_cases heq : id' = id
                · subst heq
                  have hbb : (id' == id') = true := beq_self_eq_true id'
                  go_wp2
                  go_quiet (fail)
                  go_wp2
                  go_ret3
                  have h1 : (ml, mn, me) = ([], (i : Int) + 1, 5) := by
                    rw [HT.out, HD.out, parseGo, if_neg (by rw [List.length_map]; omega), ← HL.out, if_neg (by simp), if_neg (by have := HW.out; omega), if_pos (by rw [List.map_map]; exact List.mem_of_getElem? HY.out)]
                  obtain ⟨rfl, rfl, rfl⟩ : ml = [] ∧ mn = (i : Int) + 1 ∧ me = 5 := by simpa using h1
                  exact ⟨⟨none, 0, [], rfl, rfl, RdRs.nil_ _ _⟩, below_drewN' (below_then HB1.out (below_then HB6.out HB2.out hs61) HB1.out.size) _⟩
                · have hne := beq_eq_false_iff_ne.2 heq
                  go_wp2
                  go_quiet (fail)
                  go_wp2
                  refine ⟨⟨k + 1, by go_num, hkl, below_drewN' HB2.out _, fun j hj => ?_⟩, by simp only [intOf]; omega⟩
                  by_cases hjk : j = k
                  · subst hjk
                    rw [HY.out]
                    intro e
                    injection e with e
                    exact heq e
                  · exact HNO.out j (by omega)
              · obtain rfl : k = out.length := by omega
                have HP2 := Lib.hid (own_below HP6.out HB2.out)
                have HO2 := Lib.hid (HO6.out.below HB2.out)
                go_wp2_with (at_builtin; refine wpList_append_own _ rfl _ _ 34 rfl w1.heap.size 26 i0 (.agg #[.int .i64 0, .bool false, .bool false, .bool false, .bool false, .bool false, .slice none 0 0]) 7 40 Tryd.underlying34 hi hz0 hz1 hz2 rfl (by decide) _ out.length (out.flatMap fun x => x.cs.toList) rfl (HO2.out.own.alloc _) ⟨wr.heap.size, 0, none⟩ 1 1 [.int .i64 id, .bool f.i, .bool f.s, .bool f.m, .bool f.o, .bool f.l, .slice A5 pp.length c5] rfl ?qc1 ?qc2 ?qc3 ?qc4 ?qc5 ?qc6 ?_)
                case qc1 => rfl
                case qc2 => intro j u hj; exact alloc_at wr _ _ j u hj
                case qc3 => intro u hu; simp only [List.mem_cons, List.not_mem_nil, or_false] at hu; rcases hu with rfl | rfl | rfl | rfl | rfl | rfl | rfl <;> rfl
                case qc4 => unfold maxLen; omega
                case qc5 => omega
                case qc6 => simp; omega
                intro v8 w8 ho8 hg8 _
                have HO8 := Lib.hid ho8
                have HG8 := Lib.hid hg8
                clear ho8 hg8 r0
                go_wp2
                have hni : ¬ id ∈ (out.map (·.1)).map (·.id) := by
                  rw [List.map_map]
                  intro hm
                  obtain ⟨j, hj⟩ := List.mem_iff_getElem?.1 hm
                  have hjl := (List.getElem?_eq_some_iff.1 hj).1
                  rw [List.length_map] at hjl
                  exact HNO.out j hjl hj
                refine ⟨⟨out ++ [((⟨id, f, pp⟩ : Ru), A5, c5)], i + 1, by go_num, hlt, by simp [HOI.out], by have := HOI.out; omega, ?_, ?_, ?_⟩, by simp only [intOf]; omega⟩
                · exact Below.grown ((below_then HB6.out HB2.out hs61).alloc (by omega) _) HG8.out (by simp; omega) (fun r e => own_base HO2.out.own r e)
                · exact (HO2.out.alloc _).snoc HG8.out HO8.out (HP2.out.alloc _) ⟨hpp, HWF.out⟩
                · have h1 := HT.out
                  rw [HD.out, parseGo, if_neg (by rw [List.length_map]; omega), ← HL.out, if_neg (by simp), if_neg (by have := HW.out; omega), if_neg hni] at h1
                  rw [h1, List.map_append, glue_cons]
                  congr 1
                  omega
        · have he := bne_iff_ne.2 h0
          clear hL
          go_wp2_with (go_at_call 43; refine (rparseLine_lit _ A3 c3 b HRB.out (by omega) hc3 id f pp at_ er HL.out).mono ?_; rintro e w5 ⟨A5, c5, rfl, ho, hb⟩; have HO5 := Lib.hid ho; have HB5 := Lib.hid hb; clear ho hb)
          go_ret3
          have h1 : (ml, mn, me) = ([], (i : Int) + 1, er) := by rw [HT.out, HD.out, parseGo, if_neg (by rw [List.length_map]; omega), ← HL.out, if_pos h0]
          obtain ⟨rfl, rfl, rfl⟩ : ml = [] ∧ mn = (i : Int) + 1 ∧ me = er := by simpa using h1
          exact ⟨⟨none, 0, [], rfl, rfl, RdRs.nil_ _ _⟩, (below_then (below_then HB1.out HB.out HB1.out.size) HB5.out (by have := HB1.out.size; omega)).alloc (by have := HB1.out.size; have := HB5.out.size; omega) _⟩
    · obtain rfl : i = ls.length := by omega
      go_wp2
      go_ret3
      have h1 : (ml, mn, me) = (out.map (·.1), 0, 0) := by rw [HT.out, List.drop_of_length_le (Nat.le_refl _), parseGo]
      obtain ⟨rfl, rfl, rfl⟩ : ml = out.map (·.1) ∧ mn = 0 ∧ me = 0 := by simpa using h1
      exact ⟨⟨A2, c2, out, rfl, rfl, HO.out.reads⟩, below_then HB1.out HB.out HB1.out.size⟩
end Go.Proofs.YtkfjnllbjlndlaaDoor
