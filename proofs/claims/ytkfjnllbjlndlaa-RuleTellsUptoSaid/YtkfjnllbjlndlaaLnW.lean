/- The law RuleTells, walked: it answers true. -/
import Derived.Test.YtkfjnllbjlndlaaLnQ
import Derived.Test.YtkfjnllbjlndlaaLnR
import Derived.Test.YtkfjnllbjlndlaaBegun
import Derived.Deep.RegionHeld3
namespace Go.Proofs.Ytkfjnllbjlndlaa
open Go.RowKit

theorem numF_get (ls : List (List UInt8)) : ∀ (j k : Nat), (numF j ls)[k]? = (ls[k]?).map fun l => (j + k, l) := by
  induction ls with
  | nil => intro j k; simp [numF]
  | cons l ls ih =>
    intro j k
    cases k with
    | zero => simp [numF]
    | succ k => simp only [numF, List.getElem?_cons_succ]; rw [ih]; congr 1; funext l; rw [show j + 1 + k = j + (k + 1) by omega]
theorem numF_take (ls : List (List UInt8)) (k : Nat) (l : List UInt8) (h : ls[k]? = some l) : (numF 1 ls).take (k + 1) = (numF 1 ls).take k ++ [(k + 1, l)] := by
  rw [List.take_add_one, numF_get, h]
  simp [Nat.add_comm]

theorem below_base {B B' : Nat} {w w' : World} (h : Below B w w') (hB : B' ≤ B) : Below B' w w' := h.mono hB

set_option maxRecDepth 100000 in
set_option maxHeartbeats 2000000 in
theorem ruleTells_any (w : World) (A : Option Addr) (c : Nat) (p : List UInt8) (hcap : p.length ≤ c) (hs : p.length ≤ 1048576) (hr : RdB w w.heap.size A p) (m : Nat) (hm : m < 256) :
    Calls Try.prog 4 #[.slice A p.length c, .int .u8 m] w fun e w' => e = .returned (.bool true) ∧ Below w.heap.size w w' := by
  obtain ⟨i0, hi, hz0, hz1, hz2⟩ := info_parts infoLn
  have HR := Lib.hid hr
  have hL := linesM_length p
  obtain ⟨L, hLL⟩ : ∃ L, linesM p = L := ⟨_, rfl⟩
  rw [hLL] at hL
  clear hr
  go_enter Try.func4, Try.ntmps4
  go_wp2_with (go_at_call 13; refine (rlines_any _ A c p HR.out hcap hs).mono ?_; rintro e w1 ⟨⟨v, vs, rfl, ho, hsl⟩, hb⟩; rw [hLL] at hsl; obtain ⟨Av, cv, rfl⟩ := own_slice ho; have OV := Lib.hid ho; have HB1 := Lib.hid hb; have HSL := Lib.hid hsl; clear ho hb hsl)
  have HVL := Lib.hid HSL.out.1
  go_loopw [5, 11] (fun z q wr => ∃ (v : Value) (k : Nat), v = z ∧ q = .int .i64 k ∧ k ≤ vs.length ∧ wr.ownsRow w1.heap.size 34 2 v k (lcells ((numF 1 L).take k)) ∧ Below w1.heap.size w1 wr) (fun _ q _ => vs.length - (intOf q).toNat)
  case atStart => exact ⟨_, 0, rfl, rfl, Nat.zero_le _, World.ownsRow_nil _ _ _ _, Below.refl _ _⟩
  case round =>
    obtain ⟨v, k, rfl, rfl, hk, hown, hB⟩ := hrel
    have HO := Lib.hid hown
    have HB := Lib.hid hB
    clear hown hB
    have hvb : vs.length ≤ p.length := by rw [HVL.out]; exact hL
    by_cases hl : k < vs.length
    · obtain ⟨l, hlk⟩ : ∃ l, L[k]? = some l := ⟨_, List.getElem?_eq_getElem (HVL.out ▸ hl)⟩
      obtain ⟨A3, c3, h1, h2, h3⟩ := HSL.out.2 k l hlk
      have hrd : RdB wr wr.heap.size A3 l := Reads.more (Reads.below (Reads.below h3 HB1.out) (HB.out.mono HB1.out.size)) (Nat.le_trans HB1.out.size HB.out.size)
      have hcv := hrd.string_ (P := Try.prog) 29 9 5 Try.underlying29 Try.underlying5 Try.underlying9 c3
      obtain ⟨g, cg, hv, _, hg⟩ := OV.out.form (by omega)
      injection hv with hv1 hv2 hv3
      subst hv1 hv3
      have hcell : wr.cell? ⟨g, k, none⟩ = some (.slice A3 l.length c3) := (HB.out.cell (p := ⟨g, k, none⟩) hg).trans (by have := OV.out.cells (g := g) rfl k _ h1; rwa [addL_off] at this)
      have HLK := Lib.hid hlk
      clear h1 h2 h3 hrd hlk
      go_wp2_with (at_builtin; refine wpList_append_own _ rfl _ _ 30 rfl w1.heap.size 34 i0 (.agg #[.int .i64 0, .string ⟨#[]⟩]) 2 24 Try.underlying30 hi hz0 hz1 hz2 rfl (by decide) v k (lcells ((numF 1 L).take k)) rfl (HO.out.alloc _) ⟨wr.heap.size, 0, none⟩ 1 1 (lcell (k + 1, l)) rfl ?qc1 ?qc2 ?qc3 ?qc4 ?qc5 ?qc6 ?_)
      case qc1 => rfl
      case qc2 => intro j u hj; refine Eq.trans ?_ hj; simp [lcell]
      case qc3 => exact lcell_one _
      case qc4 => unfold maxLen; omega
      case qc5 => omega
      case qc6 => have := HB.out.size; first | omega | (simp; omega)
      intro v' w2 hown' hgrow _
      have HO' := Lib.hid hown'
      have HG := Lib.hid hgrow
      clear hown' hgrow
      go_wp2
      refine ⟨⟨v', k + 1, rfl, by go_num, hl, ?_, ?_⟩, by simp only [intOf]; omega⟩
      · rw [numF_take L k l HLK.out, show lcells ((numF 1 L).take k ++ [(k + 1, l)]) = _ from lcells_snoc _ _]
        exact HO'.out
      · exact (HB.out.alloc HB.out.size _).grown HG.out (by simp; have := HB.out.size; omega) (fun i e => own_base HO.out i e)
    · obtain rfl : k = vs.length := by omega
      have HO2 := Lib.hid (show wr.ownsRow w1.heap.size 34 2 v (numF 1 L).length (lcells (numF 1 L)) by
        have h := HO.out
        rw [List.take_of_length_le (by rw [numF_length, HVL.out]; exact Nat.le_refl _)] at h
        rw [numF_length, ← HVL.out]
        exact h)
      have HB0 := Lib.hid (below_then HB1.out HB.out HB1.out.size)
      obtain ⟨NL, hNL⟩ : ∃ NL, numF 1 L = NL := ⟨_, rfl⟩
      have hnl : NL.length ≤ 1048576 := by rw [← hNL, numF_length]; omega
      rw [hNL] at HO2
      obtain ⟨Aw, cw, rfl⟩ := own_slice HO2.out
      have hcw := own_cap HO2.out
      have HNL := Lib.hid (show numF 1 (linesM p) = NL by rw [hLL, hNL])
      have hwm : IntKind.i64.wrap (m : Int) = (m : Int) := IntWalk.i64_in _ (by omega)
      obtain ⟨k, hk⟩ : ∃ k, k = (NL.take m).length := ⟨_, rfl⟩
      have hkl : k ≤ NL.length := by rw [hk, List.length_take]; omega
      have hmin : min (NL.length : Int) (m : Int) = (k : Int) := by rw [hk, List.length_take]; omega
      have hk0 : (0 : Int) ≤ (k : Int) := by omega
      have hkc : (k : Int) ≤ (cw : Int) := by omega
      have HK := Lib.hid hk
      have hlen : p.length ≤ 140737488351232 := by omega
      clear HO hk hNL hLL
      go_wp2
      go_region_held3 (fun _ => True) (trivial)
        (first | (go_at_call 14; refine (equalL_take _ _ _ _ _ _ _ NL m (by omega) T7.out OV7.out HK.out).mono ?_; rintro e w8 ⟨rfl, m8, rfl⟩) | (go_at_call 15; refine (toldL_any _ _ A6 c6 p m BP6.out R6.out C6.out hs L6.out).mono ?_; rintro e w7 ⟨⟨v7, rfl, hto⟩, hb7⟩; rw [HNL.out] at hto; have T7 := Lib.hid hto; have OV7 := Lib.hid (own_below OV6.out hb7); have HB7 := Lib.hid (below_then HB6.out hb7 HB6.out.size); clear hto hb7) | (go_at_call 16; refine (lines_any _ A c p (Reads.more (Reads.below HR.out HB5.out) HB5.out.size) hlen).mono ?_; rintro e w6 ⟨bp6, A6, c6, rfl, hbp6, hr6, hc6, hl6, _, hb6⟩; have OV6 := Lib.hid (own_below OV5.out hb6); have HB6 := Lib.hid (below_then HB5.out hb6 HB5.out.size); have BP6 := Lib.hid hbp6; have R6 := Lib.hid hr6; have C6 := Lib.hid hc6; have L6 := Lib.hid (fun ad e => (hl6 ad e).2); clear hbp6 hr6 hc6 hl6 hb6) | (go_at_call 14; refine (equalL_own _ _ _ _ _ _ NL (by omega) T4.out OV4.out).mono ?_; rintro e w5 ⟨rfl, m5, rfl⟩; have OV5 := Lib.hid (own_below OV4.out (below_drewN' (Below.refl _ _) m5)); have HB5 := Lib.hid (below_drewN' HB4.out m5)) | (go_at_call 15; refine (toldL_int _ _ A3 c3 p 1073741824 1073741824 rfl BP3.out R3.out C3.out hs L3.out).mono ?_; rintro e w4 ⟨⟨v4, rfl, hto⟩, hb4⟩; rw [HNL.out, List.take_of_length_le (show NL.length ≤ 1073741824 by omega)] at hto; have T4 := Lib.hid hto; have OV4 := Lib.hid (own_below OV3.out hb4); have HB4 := Lib.hid (below_then HB3.out hb4 HB3.out.size); clear hto hb4) | (go_at_call 16; refine (lines_any _ A c p (Reads.more (Reads.below HR.out HB2.out) HB2.out.size) hlen).mono ?_; rintro e w3 ⟨bp3, A3, c3, rfl, hbp3, hr3, hc3, hl3, _, hb3⟩; have OV3 := Lib.hid (own_below OV2.out hb3); have HB3 := Lib.hid (below_then HB2.out hb3 HB2.out.size); have BP3 := Lib.hid hbp3; have R3 := Lib.hid hr3; have C3 := Lib.hid hc3; have L3 := Lib.hid (fun ad e => (hl3 ad e).2); clear hbp3 hr3 hc3 hl3 hb3) | (go_at_call 10; refine (begun_any _).mono ?_; rintro e w2 ⟨rfl, hb2⟩; have OV2 := Lib.hid (own_below HO2.out (below_then (Below.drew (Below.refl _ _)) hb2 (Nat.le_refl _))); have HB2 := Lib.hid (below_then (Below.drew HB0.out) hb2 HB0.out.size); clear hb2))
      all_goals
        go_wp2
        go_ret
        exact ⟨rfl, below_drewN' HB7.out _⟩
end Go.Proofs.Ytkfjnllbjlndlaa
