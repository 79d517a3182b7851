/- riddleref20.ParseLine. -/
import Derived.Test.YtkfjnllbjlndlaaDoorLine
import Derived.Test.YtkfjnllbjlndlaaDoorRfA
import Derived.Test.YtkfjnllbjlndlaaDoorFlC
import Derived.Test.YtkfjnllbjlndlaaDoorInv
namespace Go.Proofs.YtkfjnllbjlndlaaDoor
open Go.RowKit

theorem index_first {p : List UInt8} {i : Nat} (h : p[i]? = some 10) (hno : ∀ j, j < i → p[j]? ≠ some 10) : Lib.indexByte p 10 = (i : Int) := by
  obtain ⟨o, ho⟩ := Int.eq_ofNat_of_zero_le (index_has h)
  obtain ⟨h1, h2⟩ := Lib.indexByte_some ho
  have : o = i := by
    rcases Nat.lt_trichotomy o i with hl | hl | hl
    · exact absurd h1 (hno o hl)
    · exact hl
    · exact absurd h (h2 i hl)
  omega
theorem index_ge {p : List UInt8} {n : Nat} (hno : ∀ j, j < n → p[j]? ≠ some 10) : ¬ (0 ≤ Lib.indexByte p 10 ∧ Lib.indexByte p 10 < n) := by
  rintro ⟨h0, h1⟩
  obtain ⟨o, ho⟩ := Int.eq_ofNat_of_zero_le h0
  exact hno o (by omega) (Lib.indexByte_some ho).1
/-- What an error leaves in the result's cell. -/
abbrev zeroC : List Value := [.int .i64 0, .bool false, .bool false, .bool false, .bool false, .bool false, .slice none 0 0]
theorem pl_bad {w W : World} {bs : List UInt8} {tmps : Array Value} {at_ er : Int} (hb : Bk W w.heap.size 26 zeroC.toArray) (hB : Below w.heap.size w W) (hL : lineM bs = LineR.bad at_ er)
    (h2 : tmps[2]?.getD undef = .pointer (some ⟨w.heap.size, 0, none⟩)) (h3 : tmps[3]?.getD undef = .int .i64 at_) (h4 : tmps[4]?.getD undef = .int .i64 er) :
    bodyPost Tryd.prog Tryd.f43 (fun e w' => ∃ v, e = .returned ((lineM bs).vals v) ∧ w'.ownsRow w.heap.size 5 1 v (lineM bs).p.length (bcells (lineM bs).p) ∧ Below w.heap.size w w') Exit.ret { tmps := tmps, defers := [] } W := by
  have kc := hb.cells
  simp [zeroC] at kc
  rw [hL]
  refine bodyPost_ret (v := (LineR.bad at_ er).vals (.slice none 0 0)) ?_ rfl ⟨_, rfl, World.ownsRow_nil _ _ _ _, hB⟩
  simp [results, Tryd.results43, go_sem, kc, h2, h3, h4, LineR.vals, LineR.bad, Fl.zero]
theorem pl_ok {w W : World} {bs p : List UInt8} {id : Int} {f : Fl.F5} {A : Option Addr} {c : Nat} {tmps : Array Value} (hb : Bk W w.heap.size 26 #[.int .i64 id, .bool f.i, .bool f.s, .bool f.m, .bool f.o, .bool f.l, .slice A p.length c]) (hB : Below w.heap.size w W) (ho : W.ownsRow w.heap.size 5 1 (.slice A p.length c) p.length (bcells p)) (hL : lineM bs = ⟨id, f, p, bs.length, 0⟩)
    (h2 : tmps[2]?.getD undef = .pointer (some ⟨w.heap.size, 0, none⟩)) (h3 : tmps[3]?.getD undef = .int .i64 bs.length) (h4 : tmps[4]?.getD undef = .int .i64 0) :
    bodyPost Tryd.prog Tryd.f43 (fun e w' => ∃ v, e = .returned ((lineM bs).vals v) ∧ w'.ownsRow w.heap.size 5 1 v (lineM bs).p.length (bcells (lineM bs).p) ∧ Below w.heap.size w w') Exit.ret { tmps := tmps, defers := [] } W := by
  have kc := hb.cells
  simp at kc
  rw [hL]
  refine bodyPost_ret (v := (LineR.mk id f p bs.length 0).vals (.slice A p.length c)) ?_ rfl ⟨_, rfl, ho, hB⟩
  simp [results, Tryd.results43, go_sem, kc, h2, h3, h4, LineR.vals]

set_option maxRecDepth 100000 in
set_option maxHeartbeats 4000000 in
theorem rparseLine_any (w : World) (A : Option Addr) (c : Nat) (bs : List UInt8) (h : RdB w w.heap.size A bs) (hn : bs.length ≤ 140737488351232) (hc : bs.length ≤ c) :
    Calls Tryd.prog 43 #[.slice A bs.length c] w fun e w' => ∃ v, e = .returned ((lineM bs).vals v) ∧ w'.ownsRow w.heap.size 5 1 v (lineM bs).p.length (bcells (lineM bs).p) ∧ Below w.heap.size w w' := by
  have H := Lib.hid h
  clear h
  have hidr : (idM bs 0 0).2.2 = true → 0 ≤ (idM bs 0 0).2.1 ∧ (idM bs 0 0).2.1 < bs.length := by have := idM_ok bs 0 0 (by omega); simpa using this
  have hcon := fun W (hb : RdB W W.heap.size A bs) => ident_any W W.heap.size A c bs hb hn
  obtain ⟨⟨id, p0, ok⟩, hI⟩ : ∃ q, q = idM bs 0 0 := ⟨_, rfl⟩
  have HI := Lib.hid hI
  rw [← hI] at hidr hcon
  clear hI
  simp only [] at hidr hcon
  obtain ⟨i5, hi5, hz50, hz51, hz52⟩ := info_parts infoU8
  cases ok with
  | false =>
    have hline : lineM bs = LineR.bad p0 201 := by unfold lineM; rw [← HI.out]; rfl
    have hp : p0 + (if false = true then 1 else 0) = p0 := by simp
    simp only [hp] at hcon
    have HC := Lib.hid hcon
    have HL := Lib.hid hline
    clear hidr hi5 hz50 hz51 hz52 hline hcon hp
    go_enter Tryd.func43, Tryd.ntmps43
    go_wp2_with (go_at_call 65; refine (HC.out _ (Reads.more (Reads.alloc H.out (Nat.le_refl _) _) (by simp))).mono ?_; rintro e w1 ⟨rfl, rfl⟩)
    exact pl_bad (Bk.new w _ _) ((Below.refl _ _).alloc (Nat.le_refl _) _) HL.out rfl rfl rfl
  | true =>
    obtain ⟨hp0, hp1⟩ := hidr rfl
    clear hidr
    obtain ⟨m, rfl⟩ := Int.eq_ofNat_of_zero_le hp0
    have hml : m < bs.length := by omega
    have hline : lineM bs = finM id bs.length (flM (bs.drop (m + 1)) 0 Fl.zero ((m : Int) + 1)) := by
      unfold lineM
      rw [← HI.out]
      have : ((m : Int).toNat + 1) = m + 1 := by omega
      simp
    have HL := Lib.hid hline
    simp only [if_true] at hcon
    have HC := Lib.hid hcon
    clear hline hp0 hp1 hcon
    go_enter Tryd.func43, Tryd.ntmps43
    go_wp2_with (go_at_call 65; refine (HC.out _ (Reads.more (Reads.alloc H.out (Nat.le_refl _) _) (by simp))).mono ?_; rintro e w1 ⟨rfl, rfl⟩)
    go_loopw [6, 9] (fun q r wr => ∃ (k : Nat) (j : Int) (f : Fl.F5), m + 1 ≤ k ∧ k ≤ bs.length ∧ q = .int .i64 k ∧ r = .int .i64 j ∧ 0 ≤ j ∧ j ≤ 5 ∧ flM (bs.drop k) j f k = flM (bs.drop (m + 1)) 0 Fl.zero ((m : Int) + 1) ∧ Bk wr w.heap.size 26 (LineR.cells 0 Fl.zero) ∧ Bk wr (w.heap.size + 1) 26 (LineR.cells id f) ∧ Below w.heap.size w wr) (fun q _ _ => bs.length - (intOf q).toNat)
    case atStart =>
      exact ⟨m + 1, 0, Fl.zero, by omega, by omega, by go_num, rfl, by omega, by omega, by rfl, (Bk.new _ _ _).alloc _, Bk.at_new _ _ _ _ (by simp), ((Below.refl _ _).alloc (Nat.le_refl _) _).alloc (by simp) _⟩
    case round =>
      obtain ⟨k, j, f, hk0, hk, rfl, rfl, hj0, hj5, hfl, hb0, hb1, hb⟩ := hrel
      have HX := Lib.hid (And.intro hb0 (And.intro hb1 hb))
      have HF := Lib.hid hfl
      have hcell0 := hb0.cells
      have hcell1 := hb1.cells
      have hfro0 := hb0.frozens
      have hfro1 := hb1.frozens
      have hrb := Lib.hid (Reads.below H.out hb)
      simp only [LineR.cells, Fl.zero] at hcell0 hcell1
      clear hfl hb0 hb1 hb
      by_cases hlt : k < bs.length
      · obtain ⟨ad, eA, _, hcell⟩ := RdB.at_ hrb.out hlt
        have hF := HF.out
        rw [List.drop_eq_getElem_cons hlt, flM] at hF
        have HF2 := Lib.hid hF
        clear hF
        have hne : ((k : Int) == (bs.length : Int)) = false := by rw [beq_eq_false_iff_ne]; omega
        by_cases h47 : bs[k] = 47
        · have hst := HF2.out
          rw [if_pos h47] at hst
          have h47' : ((bs[k]).toNat : Int) = 47 := by rw [h47]; rfl
          rw [h47'] at hcell
          obtain ⟨A1, c1, hcut, hc1, hrp⟩ := cut_l (P := Tryd.prog) 24 5 Tryd.underlying24 hi5 hz51 .i64 A bs c (k + 1) ((k : Int) + 1) (by omega) (by omega) hc
          have hpl : (bs.drop (k + 1)).length ≤ 140737488351232 := by rw [List.length_drop]; omega
          obtain ⟨p, hp⟩ : ∃ p, p = bs.drop (k + 1) := ⟨_, rfl⟩
          rw [← hp] at hcut hc1 hrp hst hpl
          have hrr := Lib.hid (hrp wr _ hrb.out)
          have hpat : lineM bs = patM id f p ((k : Int) + 1) bs.length := by
            have h1 := HL.out
            rw [← hst] at h1
            exact h1
          have HPAT := Lib.hid hpat
          have HS := Lib.hid (And.intro hst hp)
          clear hpat hst hp h47 h47' hrp
          subst eA
          go_wp2_with (at_builtin; refine wpList_append_rd rfl _ _ 24 rfl (w.heap.size + 2) 5 i5 Tryd.underlying24 hi5 hz50 hz51 hz52 (.slice none 0 0) 0 [] rfl (World.ownsRow_nil _ _ _ _) A1 c1 _ p rfl hrr.out (by omega) (by have := HX.out.2.1.lt; omega) ?_; intro v2 w2 ho2 hg2; rw [List.nil_append, Nat.zero_add] at ho2; obtain ⟨A2, c2, rfl⟩ := own_slice ho2; have HO2 := Lib.hid ho2; have HG2 := Lib.hid hg2; have hcellA := (HX.out.1.grown hg2 (fun e => by cases e)).cells; have hfroA := (HX.out.1.grown hg2 (fun e => by cases e)).frozens; have hcellB := (HX.out.2.1.grown hg2 (fun e => by cases e)).cells; have hfroB := (HX.out.2.1.grown hg2 (fun e => by cases e)).frozens; simp only [LineR.cells, Fl.zero] at hcellA hcellB; clear ho2 hg2)
          have hlt2 := HX.out.2.1.lt
          obtain ⟨W3, hW3⟩ : ∃ W3, W3 = w2.setCell ⟨w.heap.size + 1, 6, none⟩ (.slice A2 p.length c2) := ⟨_, rfl⟩
          have kA := (HX.out.1.grown HG2.out (fun e => by cases e)).far (p := ⟨w.heap.size + 1, 6, none⟩) (by simp) (.slice A2 p.length c2)
          have kB := (HX.out.2.1.grown HG2.out (fun e => by cases e)).set 6 (.slice A2 p.length c2)
          have ho3 := own_set (p := ⟨w.heap.size + 1, 6, none⟩) HO2.out (by simp) (.slice A2 p.length c2)
          have hb3 := (Below.grown HX.out.2.2 HG2.out HX.out.2.2.size (fun q e => by cases e)).setCell (p := ⟨w.heap.size + 1, 6, none⟩) (by simp) (.slice A2 p.length c2)
          rw [← hW3] at kA kB ho3 hb3 ⊢
          clear hW3 hcellA hfroA hcellB hfroB hcell0 hcell1 hfro0 hfro1
          have gA := kA.cells
          have fA := kA.frozens
          have gB := kB.cells
          have fB := kB.frozens
          simp only [LineR.cells, Fl.zero] at gA gB
          simp at gB
          have KA := Lib.hid kA
          have HO3 := Lib.hid ho3
          have HB3 := Lib.hid hb3
          have RD := Lib.hid (own_reads ho3)
          clear kA kB ho3 hb3
          have hk48 : (k : Int) ≤ 140737488351232 := by omega
          go_loop [11] (fun q => ∃ i : Nat, q = .int .i64 i ∧ i ≤ p.length ∧ i ≤ 1024 ∧ ∀ j, j < i → p[j]? ≠ some 10) (fun q => p.length - (intOf q).toNat)
          case atStart => exact ⟨0, rfl, Nat.zero_le _, by omega, fun j hj => by omega⟩
          case round =>
            obtain ⟨i, rfl, hi1, hi2, hno⟩ := hrel
            have HNO := Lib.hid hno
            clear hno
            by_cases hil : i < p.length
            · by_cases h1024 : i = 1024
              · subst h1024
                have hr : lineM bs = LineR.bad ((k : Int) + 1 + 1024) 3 := by
                  rw [HPAT.out]
                  unfold patM
                  rw [if_neg (by have := index_ge HNO.out; omega), if_pos (by omega)]
                have HRR := Lib.hid hr
                clear hr
                go_wp2
                exact pl_bad (W := setN W3 w.heap.size 0 zeroC) (Bk.putN KA.out zeroC) (below_setN _ HB3.out 0 (Nat.le_refl _)) HRR.out rfl rfl rfl
              · have hneq : ((i : Int) == 1024) = false := by rw [beq_eq_false_iff_ne]; omega
                obtain ⟨ad2, e2, _, hpc⟩ := RdB.at_ RD.out hil
                subst e2
                by_cases hc10 : p[i] = 10
                · have hr : lineM bs = LineR.bad ((k : Int) + 1 + i) 201 := by
                    have h1 := index_first (i := i) (by rw [List.getElem?_eq_getElem hil, hc10]) HNO.out
                    rw [HPAT.out]
                    unfold patM
                    rw [h1, if_pos (by omega)]
                  have HRR := Lib.hid hr
                  have hpc' : W3.cell? (ad2.add i) = some (.int .u8 10) := by rw [hpc, hc10]; rfl
                  clear hpc hc10 hr
                  go_wp2
                  exact pl_bad (W := setN W3 w.heap.size 0 zeroC) (Bk.putN KA.out zeroC) (below_setN _ HB3.out 0 (Nat.le_refl _)) HRR.out rfl rfl rfl
                · have hcf := u8_lit' p[i] 10 (by omega) hc10
                  have HC10 := Lib.hid hc10
                  clear hc10
                  go_wp2
                  refine ⟨⟨i + 1, by go_num, hil, by omega, fun j hj => ?_⟩, by simp only [intOf]; omega⟩
                  by_cases hji : j = i
                  · subst hji
                    rw [List.getElem?_eq_getElem hil]
                    intro e
                    injection e with e
                    exact HC10.out e
                  · exact HNO.out j (by omega)
            · obtain rfl : i = p.length := by omega
              have hr : lineM bs = ⟨id, f, p, bs.length, 0⟩ := by
                rw [HPAT.out]
                unfold patM
                rw [if_neg (by have h1 := index_ge HNO.out; have h2 := indexByte_bd p 10; omega), if_neg (by omega)]
              have HRR := Lib.hid hr
              clear hr
              go_wp2
              exact pl_ok (W := setN W3 w.heap.size 0 [.int .i64 id, .bool f.i, .bool f.s, .bool f.m, .bool f.o, .bool f.l, .slice A2 p.length c2]) (Bk.putN KA.out [.int .i64 id, .bool f.i, .bool f.s, .bool f.m, .bool f.o, .bool f.l, .slice A2 p.length c2]) (below_setN _ HB3.out 0 (Nat.le_refl _)) (own_mono (own_setN _ HO3.out 0 (by omega)) (by omega)) HRR.out rfl rfl rfl
        · rw [if_neg h47] at HF2
          have h47' := u8_lit' bs[k] 47 (by omega) h47
          obtain ⟨cc, hcc⟩ : ∃ cc, cc = bs[k] := ⟨_, rfl⟩
          rw [← hcc] at h47' HF2 hcell
          clear hcc h47
          by_cases hj : j ≤ Fl.ix cc
          · rw [if_pos hj] at HF2
            have hnx := fun W => next_any cc j hj0 hj5 W
            simp only [if_pos hj] at hnx
            have HN := Lib.hid hnx
            have hixr := Fl.ix_range cc
            obtain ⟨ix, hix⟩ : ∃ ix, ix = Fl.ix cc := ⟨_, rfl⟩
            rw [← hix] at HN hixr hj HF2
            have hw := fun W => with_any f ix (by omega) hixr.2 W
            unfold Fl.F5.v at hw
            have HW := Lib.hid hw
            have hixn : ¬ ix < 0 := by omega
            have hix4 : ix ≤ 4 := hixr.2
            clear hnx hix hw hixr
            subst eA
            go_wp2_with (first | (go_at_call 67; refine (HW.out _).mono ?_; rintro e w1 ⟨rfl, hb1⟩; have HB1 := Lib.hid hb1; have hcellB := (HX.out.2.1.kept hb1).cells; have hfroB := (HX.out.2.1.kept hb1).frozens; clear hb1; simp only [LineR.cells] at hcellB) | (go_at_call 66; refine (HN.out _).mono ?_; rintro e w1 ⟨rfl, rfl⟩))
            have hb1 := below_then HX.out.2.2 HB1.out HX.out.2.2.size
            have h2 := Bk.setN_ [.bool (Fl.setIx f ix).i, .bool (Fl.setIx f ix).s, .bool (Fl.setIx f ix).m, .bool (Fl.setIx f ix).o, .bool (Fl.setIx f ix).l] (HX.out.2.1.kept HB1.out) 1
            have h3 := Bk.farN (g' := w.heap.size + 1) [.bool (Fl.setIx f ix).i, .bool (Fl.setIx f ix).s, .bool (Fl.setIx f ix).m, .bool (Fl.setIx f ix).o, .bool (Fl.setIx f ix).l] (HX.out.1.kept HB1.out) 1 (by omega)
            have h4 := below_setN (g := w.heap.size + 1) [.bool (Fl.setIx f ix).i, .bool (Fl.setIx f ix).s, .bool (Fl.setIx f ix).m, .bool (Fl.setIx f ix).o, .bool (Fl.setIx f ix).l] hb1 1 (by omega)
            simp only [setN, Nat.reduceAdd] at h2 h3 h4
            exact ⟨⟨k + 1, ix + 1, Fl.setIx f ix, by omega, by omega, by go_num, rfl, by omega, by omega, by rw [Int.natCast_add]; exact HF2.out, h3, h2, h4⟩, by simp [intOf]; omega⟩
          · rw [if_neg hj] at HF2
            have hnx := fun W => next_any cc j hj0 hj5 W
            simp only [if_neg hj] at hnx
            have HN := Lib.hid hnx
            clear hnx
            subst eA
            go_wp2_with (go_at_call 66; refine (HN.out _).mono ?_; rintro e w1 ⟨rfl, rfl⟩)
            have hr : lineM bs = LineR.bad k 201 := by rw [HL.out, ← HF2.out]; rfl
            exact pl_bad (W := setN wr w.heap.size 0 zeroC) (Bk.putN HX.out.1 zeroC) (below_setN _ HX.out.2.2 0 (Nat.le_refl _)) hr rfl rfl rfl
      · obtain rfl : k = bs.length := by omega
        have hF := HF.out
        rw [List.drop_length, flM] at hF
        have hr : lineM bs = LineR.bad bs.length 201 := by rw [HL.out, ← hF]; rfl
        clear hF
        have HRR := Lib.hid hr
        clear hr
        go_wp2
        exact pl_bad (W := setN wr w.heap.size 0 zeroC) (Bk.putN HX.out.1 zeroC) (below_setN _ HX.out.2.2 0 (Nat.le_refl _)) HRR.out rfl rfl rfl
end Go.Proofs.YtkfjnllbjlndlaaDoor
