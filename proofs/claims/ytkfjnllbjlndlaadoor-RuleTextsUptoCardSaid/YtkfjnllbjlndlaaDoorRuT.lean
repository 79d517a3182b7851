/- rule.Text. -/
import Derived.Test.YtkfjnllbjlndlaaDoorRuL
import Derived.Test.YtkfjnllbjlndlaaDoorRuP
import Derived.Test.YtkfjnllbjlndlaaDoorLnR
import Derived.Deep.DeepFit
namespace Go.Proofs.YtkfjnllbjlndlaaDoor
open Go.RowKit

def textM (l : List Ru) : List UInt8 := l.flatMap fun r => r.line ++ [10]
theorem textM_snoc (l : List Ru) (r : Ru) : textM (l ++ [r]) = textM l ++ r.line ++ [10] := by simp [textM]
theorem chkGo_ok (l : List Ru) : ∀ (seen : List Int) (k : Int), (chkGo l seen k).2 = 0 → ∀ r ∈ l, r.chk = 0 := by
  induction l with
  | nil => intro seen k _ r hr; cases hr
  | cons x l ih =>
    intro seen k h r hr
    unfold chkGo at h
    split at h
    · rename_i h0; exact absurd h h0
    · split at h
      · exact absurd h (by simp)
      · rename_i h0 _
        rcases List.mem_cons.1 hr with rfl | hr
        · exact Classical.byContradiction h0
        · exact ih _ _ h r hr
theorem chkAll_ok {l : List Ru} (h : (chkAll l).2 = 0) : l.length ≤ 1024 ∧ ∀ r ∈ l, r.chk = 0 := by
  unfold chkAll at h
  split at h
  · exact absurd h (by decide)
  · exact ⟨by omega, chkGo_ok l _ _ h⟩
theorem line_len {r : Ru} (h : r.chk = 0) : r.line.length ≤ 1064 := by
  obtain ⟨h1, h2, _, h4⟩ := chk_ok h
  have := itoa_len r.id (by omega) h2
  have := lets_len r.f
  simp only [Ru.line, List.length_append, List.length_cons, List.length_nil]
  omega
theorem textM_len (l : List Ru) (h : ∀ r ∈ l, r.chk = 0) : (textM l).length ≤ l.length * 1065 := by
  induction l with
  | nil => simp [textM]
  | cons x l ih =>
    have h1 := line_len (h x (by simp))
    have h2 := ih (fun r hr => h r (by simp [hr]))
    simp only [textM, List.flatMap_cons, List.length_append, List.length_cons, List.length_nil] at h2 ⊢
    omega
theorem line_lit' (w : World) (a : Ru) (A1 : Option Addr) (c1 : Nat) (h : RdB w w.heap.size A1 a.p) (ht : Tb w) (h0 : a.chk = 0) :
    Calls Tryd.prog 13 #[.agg #[.int .i64 a.id, .bool a.f.i, .bool a.f.s, .bool a.f.m, .bool a.f.o, .bool a.f.l, .slice A1 a.p.length c1]] w fun e w' => ∃ A2 c2, e = .returned (.tuple #[.slice A2 a.line.length c2, .int .i64 0]) ∧ RdB w' w'.heap.size A2 a.line ∧ Below w.heap.size w w' := by
  refine (line_any w a A1 c1 h ht).mono ?_
  rintro e w' ⟨⟨v, rfl, ho, _⟩, hb⟩
  obtain ⟨A2, c2, rfl⟩ := own_slice (ho h0)
  rw [h0]
  exact ⟨A2, c2, rfl, own_reads (ho h0), hb⟩

set_option maxRecDepth 100000 in
set_option maxHeartbeats 4000000 in
theorem text_any (w : World) (A : Option Addr) (c : Nat) (l : List RV) (h : RdRs w w.heap.size A l) (ht : Tb w) :
    Calls Tryd.prog 18 #[.slice A l.length c] w fun e w' => (∃ v, e = .returned (.tuple #[v, .int .i64 (chkAll (l.map (·.1))).2]) ∧ ((chkAll (l.map (·.1))).2 = 0 → w'.ownsRow w.heap.size 5 1 v (textM (l.map (·.1))).length (bcells (textM (l.map (·.1))))) ∧ ((chkAll (l.map (·.1))).2 ≠ 0 → v = .slice none 0 0)) ∧ Below w.heap.size w w' := by
  obtain ⟨i0, hii, hz0, hz1, hz2⟩ := info_parts infoU8
  have HR := Lib.hid h
  have HT := Lib.hid ht
  clear h ht
  obtain ⟨n, e, hne⟩ : ∃ n e, (n, e) = chkAll (l.map (·.1)) := ⟨_, _, rfl⟩
  have HC := Lib.hid hne
  rw [← hne]
  simp only
  clear hne
  by_cases h0 : e = 0
  · subst h0
    obtain ⟨hl, hall⟩ := chkAll_ok (l := l.map (·.1)) (by rw [← HC.out])
    rw [List.length_map] at hl
    have HA := Lib.hid hall
    clear hall
    go_enter Tryd.func18, Tryd.ntmps18
    go_wp2_with (go_at_call 16; refine (checkAll_any _ A c l HR.out).mono ?_; rintro e w1 ⟨rfl, hb⟩; rw [← HC.out]; have HB1 := Lib.hid hb; clear hb)
    go_loopw [6, 21] (fun z q wr => ∃ (v : Value) (k : Nat), v = z ∧ q = .int .i64 k ∧ k ≤ l.length ∧ Below w.heap.size w wr ∧ wr.ownsRow w.heap.size 5 1 v (textM ((l.take k).map (·.1))).length (bcells (textM ((l.take k).map (·.1))))) (fun _ q _ => l.length - (intOf q).toNat)
    case atStart => exact ⟨_, 0, rfl, rfl, Nat.zero_le _, HB1.out, World.ownsRow_nil _ _ _ _⟩
    case round =>
      obtain ⟨v, k, rfl, rfl, hk, hB, hO⟩ := hrel
      have HB := Lib.hid hB
      have HO := Lib.hid hO
      clear hB hO
      by_cases hlt : k < l.length
      · obtain ⟨x, hx⟩ : ∃ x, l[k]? = some x := ⟨_, List.getElem?_eq_getElem hlt⟩
        have hxm := List.mem_of_getElem? hx
        obtain ⟨hpr, _, _, hwf⟩ := HR.out.pats x hxm
        obtain ⟨ad, rfl, hab, p0, p1, p2, p3, p4, p5, p6⟩ := (HR.out.below HB.out).at7 hx
        have hc0 : x.1.chk = 0 := HA.out _ (List.mem_map.2 ⟨x, hxm, rfl⟩)
        have htk : textM ((l.take (k + 1)).map (·.1)) = textM ((l.take k).map (·.1)) ++ x.1.line ++ [10] := by
          rw [List.take_add_one, hx, List.map_append]
          simp only [Option.toList_some, List.map_cons, List.map_nil]
          rw [textM_snoc]
        have hln := line_len hc0
        have hle := textM_len ((l.take k).map (·.1)) (fun r hr => by
          obtain ⟨y, hy, rfl⟩ := List.mem_map.1 hr
          exact HA.out _ (List.mem_map.2 ⟨y, List.mem_of_mem_take hy, rfl⟩))
        rw [List.length_map, List.length_take] at hle
        have hle2 : (textM ((l.take k).map (·.1))).length ≤ 1200000 := by omega
        obtain ⟨⟨id, f, p⟩, Ap, cp⟩ := x
        obtain ⟨LN, hLN⟩ : ∃ LN, LN = (⟨id, f, p⟩ : Ru).line := ⟨_, rfl⟩
        obtain ⟨TX, hTX⟩ : ∃ TX, TX = textM ((l.take k).map (·.1)) := ⟨_, rfl⟩
        simp only at p0 p1 p2 p3 p4 p5 p6 hpr hwf hc0 hln htk
        rw [← hLN] at hln htk
        rw [← hTX] at htk hle2
        have HLN := Lib.hid hLN
        have HTX := Lib.hid hTX
        have HTK := Lib.hid htk
        have HC0 := Lib.hid hc0
        have HP := Lib.hid (show ∀ o, RdB (wr.alloc o) (wr.alloc o).heap.size Ap p from fun o => Reads.more (Reads.alloc (Reads.below hpr HB.out) HB.out.size _) (by simp; have := HB.out.size; omega))
        have HO1 := Lib.hid (show wr.ownsRow w.heap.size 5 1 v TX.length (bcells TX) by rw [hTX]; exact HO.out)
        clear hx hxm hpr hwf hc0 hle htk hLN hTX HO
        go_wp2_with (first | (at_builtin; refine wpList_append_own _ rfl (.tmp 32) (.tmp 33) 24 rfl w.heap.size 5 i0 (.int .u8 0) 1 1 Tryd.underlying24 hii hz0 hz1 hz2 rfl (by decide) v2 (TX.length + LN.length) (bcells TX ++ bcells LN) rfl (HO2.out.alloc _) ⟨w2.heap.size, 0, none⟩ 1 1 [.int .u8 10] rfl rfl (fun j u hj => news_one _ rfl _ j u hj) (fun u hu => by simp at hu; subst hu; rfl) (by unfold maxLen; omega) (by omega) (by simp; omega) ?_; intro v3 w3 ho3 hg3 _; have HO3 := Lib.hid ho3; have HG3 := Lib.hid hg3; clear ho3 hg3) | (at_builtin; refine wpList_append_rd rfl (.tmp 30) (.tmp 31) 24 rfl w.heap.size 5 i0 Tryd.underlying24 hii hz0 hz1 hz2 v TX.length (bcells TX) rfl (own_below (HO1.out.alloc _) HB1'.out) A2 c2 _ LN rfl RD1.out (by omega) hws1 ?_; intro v2 w2 ho2 hg2; have HO2 := Lib.hid ho2; have HG2 := Lib.hid hg2; have hws2 : w.heap.size ≤ w2.heap.size := Nat.le_trans hws1 hg2.size; clear ho2 hg2) | (go_at_call 13; (with_reducible refine (line_lit' _ ⟨id, f, p⟩ Ap cp (HP.out _) (HT.out.on (HB.out.alloc HB.out.size _)) HC0.out).mono ?_); rintro e w1' ⟨A2, c2, rfl, hrd, hb⟩; rw [← HLN.out] at hrd ⊢; have RD1 := Lib.hid hrd; have HB1' := Lib.hid hb; have hws1 : w.heap.size ≤ w1'.heap.size := (by have h1 := hb.size; have h2 := HB.out.size; simp at h1; omega); clear hrd hb))
        refine ⟨⟨v3, k + 1, rfl, by go_num, hlt, ?_, ?_⟩, by simp only [intOf]; omega⟩
        · exact Below.grown (Below.alloc (Below.grown (below_then (HB.out.alloc HB.out.size _) HB1'.out (by have := HB.out.size; simp; omega)) HG2.out hws1 (fun q e => own_base HO1.out q e)) hws2 _) HG3.out (by simp; omega) (fun q e => own_base HO2.out q e)
        · rw [HTK.out]
          have e1 : (TX ++ LN ++ [10]).length = TX.length + LN.length + 1 := by simp; omega
          have e2 : bcells (TX ++ LN ++ [10]) = bcells TX ++ bcells LN ++ [Value.int IntKind.u8 10] := by simp [bcells]
          rw [e1, e2]
          exact HO3.out
      · obtain rfl : k = l.length := by omega
        go_wp2
        go_ret2
        refine ⟨⟨v, rfl, ?_⟩, HB.out⟩
        have := HO.out
        rw [List.take_length] at this
        exact this
  · have he := bne_iff_ne.2 h0
    go_enter Tryd.func18, Tryd.ntmps18
    go_wp2_with (go_at_call 16; refine (checkAll_any _ A c l HR.out).mono ?_; rintro e w1 ⟨rfl, hb⟩; rw [← HC.out]; have HB1 := Lib.hid hb; clear hb)
    go_ret2
    exact ⟨⟨_, rfl, fun h => absurd h h0, fun _ => rfl⟩, HB1.out⟩
end Go.Proofs.YtkfjnllbjlndlaaDoor
