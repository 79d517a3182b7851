/- What rule.ParseLine computes. -/
import Derived.Test.YtkfjnllbjlndlaaDoorFlD
import Derived.Test.YtkfjnllbjlndlaaDoorId
import Derived.Test.YtkfjnllbjlndlaaDoorLineM
import Derived.Test.YtkfjnllbjlndlaaDoorOwn
namespace Go.Proofs.YtkfjnllbjlndlaaDoor
open Go.RowKit

theorem Fl.zero_v : Fl.zero.v = .agg #[.bool false, .bool false, .bool false, .bool false, .bool false] := rfl
def LineR.vals (r : LineR) (v : Value) : Value := .tuple #[.agg #[.int .i64 r.id, .bool r.f.i, .bool r.f.s, .bool r.f.m, .bool r.f.o, .bool r.f.l, v], .int .i64 r.at_, .int .i64 r.e]
def LineR.cells (id : Int) (f : Fl.F5) : Array Value := #[.int .i64 id, .bool f.i, .bool f.s, .bool f.m, .bool f.o, .bool f.l, .slice none 0 0]

set_option maxRecDepth 100000 in
set_option maxHeartbeats 4000000 in
theorem parseLine_any (w : World) (A : Option Addr) (c : Nat) (bs : List UInt8) (h : RdB w w.heap.size A bs) (hn : bs.length ≤ 140737488351232) (hc : bs.length ≤ c) :
    Calls Tryd.prog 34 #[.slice A bs.length c] w fun e w' => ∃ v, e = .returned ((lineM bs).vals v) ∧ w'.ownsRow w.heap.size 5 1 v (lineM bs).p.length (bcells (lineM bs).p) ∧ Below w.heap.size w w' := by
  have H := Lib.hid h
  clear h
  have hidr : (idM bs 0 0).2.2 = true → 0 ≤ (idM bs 0 0).2.1 ∧ (idM bs 0 0).2.1 < bs.length := by have := idM_ok bs 0 0 (by omega); simpa using this
  obtain ⟨⟨id, p0, ok⟩, hI⟩ : ∃ q, q = idM bs 0 0 := ⟨_, rfl⟩
  have HI := Lib.hid hI
  rw [← hI] at hidr
  clear hI
  simp only [] at hidr
  obtain ⟨i5, hi5, hz50, hz51, hz52⟩ := info_parts infoU8
  cases ok with
  | false =>
    have hline : lineM bs = LineR.bad p0 201 := by unfold lineM; rw [← HI.out]; rfl
    rw [hline]
    clear hidr hi5 hz50 hz51 hz52 hline
    go_enter Tryd.func34, Tryd.ntmps34
    go_wp2_with (go_at_call 57; refine (id_any _ _ A c bs (Reads.alloc H.out (Nat.le_refl _) _) hn).mono ?_; rintro e w1 ⟨rfl, rfl⟩; rw [← HI.out])
    refine bodyPost_ret (v := (LineR.bad p0 201).vals (.slice none 0 0)) (by simp [results, Tryd.results34, go_sem, LineR.vals, LineR.bad, Fl.zero]) rfl ⟨_, rfl, World.ownsRow_nil _ _ _ _, (Below.refl _ _).alloc (Nat.le_refl _) _⟩
  | true =>
    obtain ⟨hp0, hp1⟩ := hidr rfl
    clear hidr
    obtain ⟨m, rfl⟩ := Int.eq_ofNat_of_zero_le hp0
    have hml : m < bs.length := by omega
    have hline : lineM bs = finM id bs.length (flM (bs.drop (m + 1)) 0 Fl.zero ((m : Int) + 1)) := by
      unfold lineM
      rw [← HI.out]
      have : ((m : Int).toNat + 1) = m + 1 := by omega
      simp
    have HL := Lib.hid hline
    clear hline hp0 hp1
    go_enter Tryd.func34, Tryd.ntmps34
    go_wp2_with (go_at_call 57; refine (id_any _ _ A c bs (Reads.alloc H.out (Nat.le_refl _) _) hn).mono ?_; rintro e w1 ⟨rfl, rfl⟩; rw [← HI.out])
    go_loopw [6] (fun q wr => ∃ (k : Nat) (j : Int) (f : Fl.F5), m + 1 ≤ k ∧ k ≤ bs.length ∧ q = .int .i64 k ∧ Fl.rd ((bs.take k).drop (m + 1)) 0 Fl.zero = some (f, j) ∧ flM (bs.drop k) j f k = flM (bs.drop (m + 1)) 0 Fl.zero ((m : Int) + 1) ∧ Bk wr w.heap.size 26 (LineR.cells 0 Fl.zero) ∧ Bk wr (w.heap.size + 1) 26 (LineR.cells id f) ∧ Below w.heap.size w wr) (fun q _ => bs.length - (intOf q).toNat)
    case atStart =>
      refine ⟨m + 1, 0, Fl.zero, by omega, by omega, by go_num, ?_, by rfl, (Bk.new _ _ _).alloc _, Bk.at_new _ _ _ _ (by simp), ((Below.refl _ _).alloc (Nat.le_refl _) _).alloc (by simp) _⟩
      rw [List.drop_eq_nil_of_le (by simp; omega)]
      rfl
    case round =>
      obtain ⟨k, j, f, hk0, hk, rfl, hrd, hfl, hb0, hb1, hb⟩ := hrel
      have HX := Lib.hid (And.intro hb0 (And.intro hb1 hb))
      have HR := Lib.hid hrd
      have HF := Lib.hid hfl
      have hcell0 := hb0.cells
      have hcell1 := hb1.cells
      have hfro0 := hb0.frozens
      have hfro1 := hb1.frozens
      have hrb := Lib.hid (Reads.below H.out hb)
      simp only [LineR.cells, Fl.zero] at hcell0 hcell1
      clear hrd hfl hb0 hb1 hb
      by_cases hlt : k < bs.length
      · obtain ⟨ad, eA, _, hcell⟩ := RdB.at_ hrb.out hlt
        have hF := HF.out
        rw [List.drop_eq_getElem_cons hlt, flM] at hF
        have HF2 := Lib.hid hF
        clear hF
        have hne : ((k : Int) == (bs.length : Int)) = false := by rw [beq_eq_false_iff_ne]; omega
        by_cases h47 : bs[k] = 47
        · have hst := HF2.out
          rw [if_pos h47] at hst
          have h47' : ((bs[k]).toNat : Int) = 47 := by rw [h47]; rfl
          rw [h47'] at hcell
          obtain ⟨A1, c1, hcut, hc1, hrp⟩ := cut_l (P := Tryd.prog) 24 5 Tryd.underlying24 hi5 hz51 .i64 A bs c (k + 1) ((k : Int) + 1) (by omega) (by omega) hc
          have HP := Lib.hid hrp
          clear hrp
          have hpl := hn
          have hpl : (bs.drop (k + 1)).length ≤ 140737488351232 := by rw [List.length_drop]; omega
          obtain ⟨p, hp⟩ : ∃ p, p = bs.drop (k + 1) := ⟨_, rfl⟩
          rw [← hp] at hcut hc1 HP hst hpl
          have HS := Lib.hid hst
          have hrp := Lib.hid (HP.out wr _ hrb.out)
          have hpat : lineM bs = patM id f p ((k : Int) + 1) bs.length := by
            have h1 := HL.out
            rw [← HF.out] at h1
            rw [List.drop_eq_getElem_cons hlt, flM, if_pos (by assumption), ← hp] at h1
            exact h1
          have HPAT := Lib.hid hpat
          clear hpat
          clear hst hp
          clear h47 h47'
          subst eA
          have hix := indexByte_bd p 10
          obtain ⟨ix, hixe⟩ : ∃ ix, ix = Lib.indexByte p 10 := ⟨_, rfl⟩
          rw [← hixe] at hix
          have HIX := Lib.hid hixe
          clear hixe
          obtain ⟨hix0, hix1⟩ := hix
          go_wp2_with (first | (go_at_call 59; refine (indexByte_any _ _ A1 c1 p 10 hrp.out).mono ?_; rintro e w1 ⟨rfl, rfl⟩; rw [← HIX.out]) | (go_at_call 38; refine (clone_any _ _ A1 c1 p hrp.out HX.out.2.2.size hpl).mono ?_; rintro e w1 ⟨v1, rfl, hown, hb1⟩; obtain ⟨A2, c2, rfl⟩ := own_slice hown; have HOW := Lib.hid (And.intro hown hb1); have hcellA := (HX.out.1.kept hb1).cells; have hcellB := (HX.out.2.1.kept hb1).cells; have hfroA := (HX.out.1.kept hb1).frozens; have hfroB := (HX.out.2.1.kept hb1).frozens; clear hown hb1; simp only [LineR.cells, Fl.zero] at hcellA hcellB))
          · have hq : ¬ 1024 ≤ ix := by simpa using ‹(!decide (1024 ≤ ix)) = true›
            have hr : lineM bs = LineR.bad ((k : Int) + 1 + ix) 201 := by
              rw [HPAT.out]
              unfold patM
              rw [← HIX.out, if_pos ⟨by omega, by omega⟩]
            have kk := Bk.putN HX.out.1 [.int .i64 0, .bool false, .bool false, .bool false, .bool false, .bool false, .slice none 0 0]
            have kc := kk.cells
            simp [setN] at kc
            rw [hr]
            refine bodyPost_ret (v := (LineR.bad ((k : Int) + 1 + ix) 201).vals (.slice none 0 0)) (by simp [results, Tryd.results34, go_sem, kc, LineR.vals, LineR.bad, Fl.zero]) rfl ⟨_, rfl, World.ownsRow_nil _ _ _ _, ?_⟩
            exact below_setN [_, _, _, _, _, _, _] HX.out.2.2 0 (Nat.le_refl _)
          · have hq : 1024 ≤ ix := by simpa using ‹(!decide (1024 ≤ ix)) = false›
            have hr : lineM bs = LineR.bad ((k : Int) + 1 + 1024) 3 := by
              rw [HPAT.out]
              unfold patM
              rw [← HIX.out, if_neg (by omega), if_pos (by omega)]
            have kk := Bk.putN HX.out.1 [.int .i64 0, .bool false, .bool false, .bool false, .bool false, .bool false, .slice none 0 0]
            have kc := kk.cells
            simp [setN] at kc
            rw [hr]
            refine bodyPost_ret (v := (LineR.bad ((k : Int) + 1 + 1024) 3).vals (.slice none 0 0)) (by simp [results, Tryd.results34, go_sem, kc, LineR.vals, LineR.bad, Fl.zero]) rfl ⟨_, rfl, World.ownsRow_nil _ _ _ _, ?_⟩
            exact below_setN [_, _, _, _, _, _, _] HX.out.2.2 0 (Nat.le_refl _)
          · have hq : p.length ≤ 1024 := by omega
            have hr : lineM bs = LineR.bad ((k : Int) + 1 + ix) 201 := by
              rw [HPAT.out]
              unfold patM
              rw [← HIX.out, if_pos ⟨by omega, by omega⟩]
            have kk := Bk.putN HX.out.1 [.int .i64 0, .bool false, .bool false, .bool false, .bool false, .bool false, .slice none 0 0]
            have kc := kk.cells
            simp [setN] at kc
            rw [hr]
            refine bodyPost_ret (v := (LineR.bad ((k : Int) + 1 + ix) 201).vals (.slice none 0 0)) (by simp [results, Tryd.results34, go_sem, kc, LineR.vals, LineR.bad, Fl.zero]) rfl ⟨_, rfl, World.ownsRow_nil _ _ _ _, ?_⟩
            exact below_setN [_, _, _, _, _, _, _] HX.out.2.2 0 (Nat.le_refl _)
          · have hq : 1024 < p.length := by omega
            have hr : lineM bs = LineR.bad ((k : Int) + 1 + 1024) 3 := by
              rw [HPAT.out]
              unfold patM
              rw [← HIX.out, if_neg (by omega), if_pos (by omega)]
            have kk := Bk.putN HX.out.1 [.int .i64 0, .bool false, .bool false, .bool false, .bool false, .bool false, .slice none 0 0]
            have kc := kk.cells
            simp [setN] at kc
            rw [hr]
            refine bodyPost_ret (v := (LineR.bad ((k : Int) + 1 + 1024) 3).vals (.slice none 0 0)) (by simp [results, Tryd.results34, go_sem, kc, LineR.vals, LineR.bad, Fl.zero]) rfl ⟨_, rfl, World.ownsRow_nil _ _ _ _, ?_⟩
            exact below_setN [_, _, _, _, _, _, _] HX.out.2.2 0 (Nat.le_refl _)
          · have hr : lineM bs = ⟨id, f, p, bs.length, 0⟩ := by
              rw [HPAT.out]
              unfold patM
              rw [← HIX.out, if_neg (by omega), if_neg (by omega)]
            have kk := Bk.putN ((HX.out.1.kept HOW.out.2).far (p := ⟨w.heap.size + 1, 6, none⟩) (by simp) (.slice A2 p.length c2)) [.int .i64 id, .bool f.i, .bool f.s, .bool f.m, .bool f.o, .bool f.l, .slice A2 p.length c2]
            have kc := kk.cells
            simp [setN] at kc
            rw [hr]
            refine bodyPost_ret (v := (LineR.mk id f p bs.length 0).vals (.slice A2 p.length c2)) (by simp [results, Tryd.results34, go_sem, kc, LineR.vals]) rfl ⟨_, rfl, ?_, ?_⟩
            · have hlt1 := HX.out.2.1.lt
              exact own_mono (own_setN [_, _, _, _, _, _, _] (own_set (p := ⟨w.heap.size + 1, 6, none⟩) HOW.out.1 hlt1 _) 0 (by omega)) HX.out.2.2.size
            · exact below_setN [_, _, _, _, _, _, _] ((below_then HX.out.2.2 HOW.out.2 HX.out.2.2.size).setCell (p := ⟨w.heap.size + 1, 6, none⟩) (by simp) _) 0 (Nat.le_refl _)
        · rw [if_neg h47] at HF2
          have hF := HF2.out
          have h47' := u8_lit' bs[k] 47 (by omega) h47
          obtain ⟨A1, c1, hcut, hc1, hrp⟩ := cut_lh (P := Tryd.prog) 24 5 Tryd.underlying24 hi5 hz51 .i64 .i64 A bs c (m + 1) (k + 1) ((m : Int) + 1) ((k : Int) + 1) (by omega) (by omega) (by omega) (by omega) hc
          have hq : (bs.take (k + 1)).drop (m + 1) = (bs.take k).drop (m + 1) ++ [bs[k]] := by
            rw [take_snocL bs k hlt, List.drop_append_of_le_length (by rw [List.length_take]; omega)]
          have hst := Fl.rd_snoc ((bs.take k).drop (m + 1)) bs[k] 0 Fl.zero
          rw [HR.out, ← hq] at hst
          simp only [Option.bind_some] at hst
          have hql : ((bs.take (k + 1)).drop (m + 1)).length ≤ 140737488351232 := by rw [List.length_drop, List.length_take]; omega
          have hrq := hrp wr _ hrb.out
          clear hrp hq h47
          obtain ⟨q, hq⟩ : ∃ q, q = (bs.take (k + 1)).drop (m + 1) := ⟨_, rfl⟩
          rw [← hq] at hcut hc1 hrq hst hql
          have hconv := RdB.string_ hrq 24 9 5 Tryd.underlying24 Tryd.underlying5 Tryd.underlying9 c1
          have hpf := Fl.pf_eq q
          have HQ := Lib.hid hq
          clear hrq hq
          have hsz : (⟨q.toArray⟩ : ByteArray).size ≤ 140737488351232 := by show q.toArray.size ≤ _; simpa using hql
          have hcon := fun W : World => parseFlags_any ⟨q.toArray⟩ hsz W
          simp only at hcon
          clear hsz
          by_cases hj : j ≤ Fl.ix bs[k]
          · rw [if_pos hj] at hst hF
            rw [hst] at hpf
            simp only [] at hpf
            rw [hpf] at hcon
            have HC := Lib.hid hcon
            have HS := Lib.hid (And.intro hst (show flM (bs.drop (k + 1)) (Fl.ix bs[k] + 1) (Fl.setIx f (Fl.ix bs[k])) ((k + 1 : Nat) : Int) = flM (bs.drop (m + 1)) 0 Fl.zero ((m : Int) + 1) from by rw [Int.natCast_add]; exact hF))
            clear hcon hst hF hpf hj
            subst eA
            go_wp2_with (go_at_call 58; refine (HC.out _).mono ?_; rintro e w1 ⟨rfl, hb1⟩; unfold Fl.F5.v; have HB1 := Lib.hid hb1; have hcellB := fun o => ((HX.out.2.1.kept hb1).alloc o).cells; have hfroB := fun o => ((HX.out.2.1.kept hb1).alloc o).frozens; clear hb1; simp only [LineR.cells] at hcellB)
            have hb1 := below_then HX.out.2.2 HB1.out HX.out.2.2.size
            have h1 : Fl.rd ((bs.take (k + 1)).drop (m + 1)) 0 Fl.zero = some (Fl.setIx f (Fl.ix bs[k]), Fl.ix bs[k] + 1) := by rw [← HQ.out]; exact HS.out.1
            have h2 := fun o => Bk.setN_ [.bool (Fl.setIx f (Fl.ix bs[k])).i, .bool (Fl.setIx f (Fl.ix bs[k])).s, .bool (Fl.setIx f (Fl.ix bs[k])).m, .bool (Fl.setIx f (Fl.ix bs[k])).o, .bool (Fl.setIx f (Fl.ix bs[k])).l] ((HX.out.2.1.kept HB1.out).alloc o) 1
            have h3 := fun o => Bk.farN (g' := w.heap.size + 1) [.bool (Fl.setIx f (Fl.ix bs[k])).i, .bool (Fl.setIx f (Fl.ix bs[k])).s, .bool (Fl.setIx f (Fl.ix bs[k])).m, .bool (Fl.setIx f (Fl.ix bs[k])).o, .bool (Fl.setIx f (Fl.ix bs[k])).l] ((HX.out.1.kept HB1.out).alloc o) 1 (by omega)
            have h4 := fun o => below_setN (g := w.heap.size + 1) [.bool (Fl.setIx f (Fl.ix bs[k])).i, .bool (Fl.setIx f (Fl.ix bs[k])).s, .bool (Fl.setIx f (Fl.ix bs[k])).m, .bool (Fl.setIx f (Fl.ix bs[k])).o, .bool (Fl.setIx f (Fl.ix bs[k])).l] (hb1.alloc hb1.size o) 1 (by omega)
            refine ⟨⟨k + 1, Fl.ix bs[k] + 1, Fl.setIx f (Fl.ix bs[k]), by omega, by omega, by go_num, h1, HS.out.2, ?_, ?_, ?_⟩, ?_⟩
            · simp only [setN, Nat.reduceAdd] at h3; exact h3 _
            · simp only [setN, Nat.reduceAdd] at h2; exact h2 _
            · simp only [setN, Nat.reduceAdd] at h4; exact h4 _
            · simp [intOf]; omega
          · rw [if_neg hj] at hst hF
            rw [hst] at hpf
            simp only [] at hpf
            rw [hpf] at hcon
            have HC := Lib.hid hcon
            have HS := Lib.hid hF
            clear hcon hst hF hpf hj
            subst eA
            go_wp2_with (go_at_call 58; refine (HC.out _).mono ?_; rintro e w1 ⟨rfl, hb1⟩; rw [Fl.zero_v]; have HB1 := Lib.hid hb1; have hcellA := fun o => ((HX.out.1.kept hb1).alloc o).cells; have hfroA := fun o => ((HX.out.1.kept hb1).alloc o).frozens; clear hb1; simp only [LineR.cells, Fl.zero] at hcellA)
            have hr : lineM bs = LineR.bad k 201 := by rw [HL.out, ← HS.out]; rfl
            have kk := fun o => Bk.putN ((HX.out.1.kept HB1.out).alloc o) [.int .i64 0, .bool false, .bool false, .bool false, .bool false, .bool false, .slice none 0 0]
            have kc := fun o => (kk o).cells
            simp [setN] at kc
            have hb1 := below_then HX.out.2.2 HB1.out HX.out.2.2.size
            rw [hr]
            refine bodyPost_ret (v := (LineR.bad k 201).vals (.slice none 0 0)) (by simp [results, Tryd.results34, go_sem, kc, LineR.vals, LineR.bad, Fl.zero]) rfl ⟨_, rfl, World.ownsRow_nil _ _ _ _, ?_⟩
            exact below_setN [_, _, _, _, _, _, _] (hb1.alloc hb1.size _) 0 (Nat.le_refl _)
      · obtain rfl : k = bs.length := by omega
        have hF := HF.out
        rw [List.drop_length, flM] at hF
        have hr : lineM bs = LineR.bad bs.length 201 := by rw [HL.out, ← hF]; rfl
        clear hF
        have HRR := Lib.hid hr
        clear hr
        go_wp2
        have kk := Bk.putN HX.out.1 [.int .i64 0, .bool false, .bool false, .bool false, .bool false, .bool false, .slice none 0 0]
        have kc := kk.cells
        simp [setN] at kc
        rw [HRR.out]
        refine bodyPost_ret (v := (LineR.bad bs.length 201).vals (.slice none 0 0)) (by simp [results, Tryd.results34, go_sem, kc, LineR.vals, LineR.bad, Fl.zero]) rfl ⟨_, rfl, World.ownsRow_nil _ _ _ _, ?_⟩
        exact below_setN [_, _, _, _, _, _, _] HX.out.2.2 0 (Nat.le_refl _)
end Go.Proofs.YtkfjnllbjlndlaaDoor
