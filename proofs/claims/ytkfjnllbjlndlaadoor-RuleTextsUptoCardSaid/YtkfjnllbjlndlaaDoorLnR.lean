/- The reference's Lines: the lines of a text, as slices of it. -/
import Derived.Test.YtkfjnllbjlndlaaDoorBytes
import Derived.Test.YtkfjnllbjlndlaaDoorLnM
import Derived.Test.YtkfjnllbjlndlaaDoorOwn
import Derived.Maps.AppendAt
import Derived.Deep.DeepFit
namespace Go.Proofs.YtkfjnllbjlndlaaDoor
open Go.RowKit

theorem infoSl : (Tryd.prog.info? 24).map (fun i => (i.zero, i.size, i.bytes)) = some (some (.slice none 0 0), 1, 24) := by kernel_rfl

/-- Values that are slices, which read as these lists of bytes. -/
def SlL (w : World) (B : Nat) (vs : List Value) (ls : List (List UInt8)) : Prop :=
  vs.length = ls.length ∧ ∀ (k : Nat) (l : List UInt8), ls[k]? = some l → ∃ A c, vs[k]? = some (.slice A l.length c) ∧ l.length ≤ c ∧ RdB w B A l
theorem SlL.nil_ (w : World) (B : Nat) : SlL w B [] [] := ⟨rfl, fun k l h => by simp at h⟩
theorem SlL.snoc {w : World} {B : Nat} {vs : List Value} {ls : List (List UInt8)} (h : SlL w B vs ls) {A : Option Addr} {l : List UInt8} {c : Nat} (hc : l.length ≤ c) (hr : RdB w B A l) : SlL w B (vs ++ [.slice A l.length c]) (ls ++ [l]) := by
  refine ⟨by simp [h.1], fun k l' hk => ?_⟩
  rcases Nat.lt_or_ge k ls.length with hlt | hge
  · rw [List.getElem?_append_left hlt] at hk
    obtain ⟨A', c', h1, h2⟩ := h.2 k l' hk
    exact ⟨A', c', by rw [List.getElem?_append_left (by rw [h.1]; exact hlt)]; exact h1, h2⟩
  · rw [List.getElem?_append_right hge] at hk
    have hk0 : k - ls.length = 0 := by
      have := (List.getElem?_eq_some_iff.1 hk).1
      simp at this
      omega
    rw [hk0] at hk
    simp at hk
    subst hk
    exact ⟨A, c, by rw [List.getElem?_append_right (by rw [h.1]; exact hge), h.1, hk0]; rfl, hc, hr⟩
theorem SlL.below {w w' : World} {B : Nat} {vs : List Value} {ls : List (List UInt8)} (h : SlL w B vs ls) (hb : Below B w w') : SlL w' B vs ls :=
  ⟨h.1, fun k l hk => by
    obtain ⟨A, c, h1, h2, h3⟩ := h.2 k l hk
    exact ⟨A, c, h1, h2, Reads.below h3 hb⟩⟩
theorem SlL.more {w : World} {B B' : Nat} {vs : List Value} {ls : List (List UInt8)} (h : SlL w B vs ls) (hb : B ≤ B') : SlL w B' vs ls :=
  ⟨h.1, fun k l hk => by
    obtain ⟨A, c, h1, h2, h3⟩ := h.2 k l hk
    exact ⟨A, c, h1, h2, Reads.more h3 hb⟩⟩
theorem news_one {W : World} (x : Value) {g : Nat} (hg : g = W.heap.size) (T : TypeId) (j : Nat) (u : Value) (h : [x][j]? = some u) : (W.alloc (.cells #[x] T)).cell? ((⟨g, 0, none⟩ : Addr).add j) = some u := by
  subst hg
  have hj : j = 0 := by have := (List.getElem?_eq_some_iff.1 h).1; simp at this; exact this
  subst hj
  have h2 : (⟨W.heap.size, 0, none⟩ : Addr).add 0 = ⟨W.heap.size, 0, none⟩ := by unfold Addr.add; split <;> simp_all
  rw [h2, (Bk.new W T #[x]).cells 0]
  simpa using h

set_option maxRecDepth 100000 in
set_option maxHeartbeats 2000000 in
theorem rlines_any (w : World) (A : Option Addr) (c : Nat) (p : List UInt8) (hr : RdB w w.heap.size A p) (hcap : p.length ≤ c) (hs : p.length ≤ 1048576) :
    Calls Tryd.prog 42 #[.slice A p.length c] w fun e w' => (∃ v vs, e = .returned v ∧ w'.ownsRow w.heap.size 24 1 v vs.length vs ∧ SlL w w.heap.size vs (linesM p)) ∧ Below w.heap.size w w' := by
  obtain ⟨i0, hi, hz0, hz1, hz2⟩ := info_parts infoSl
  obtain ⟨i1, hj, hy0, hy1, hy2⟩ := info_parts infoU8
  have HRW := Lib.hid hr
  clear hr
  go_enter Tryd.func42, Tryd.ntmps42
  go_wp2
  go_loopw [3, 4, 5] (fun z f q wr => ∃ (v : Value) (vs : List Value) (done : List (List UInt8)) (fr k : Nat), v = z ∧ f = .int .i64 fr ∧ q = .int .i64 k ∧ fr ≤ k ∧ k ≤ p.length ∧ vs.length ≤ k ∧ wr.ownsRow w.heap.size 24 1 v vs.length vs ∧ SlL w w.heap.size vs done ∧ Below w.heap.size w wr ∧ (∀ j, fr ≤ j → j < k → p[j]? ≠ some 10) ∧ linesM p = done ++ linesM (p.drop fr)) (fun _ _ q _ => p.length - (intOf q).toNat)
  case atStart => exact ⟨_, [], [], 0, 0, rfl, rfl, rfl, by omega, by omega, by simp, World.ownsRow_nil _ _ _ _, SlL.nil_ _ _, Below.refl _ _, fun j h1 h2 => by omega, rfl⟩
  case round =>
    obtain ⟨v, vs, done, fr, k, rfl, rfl, rfl, hfk, hk, hvl, hown, hsl, hB, hno, hT⟩ := hrel
    have HO := Lib.hid hown
    have HB := Lib.hid hB
    have HT := Lib.hid hT
    have HS := Lib.hid hsl
    have HNO := Lib.hid hno
    clear hown hB hT hsl hno
    by_cases hl : k < p.length
    · obtain ⟨ad, rfl, hab, hcw⟩ := HRW.out.at_ hl
      have hcell : wr.cell? (ad.add k) = some (.int .u8 (p[k]).toNat) := (HB.out.cell (by rw [block_of_add]; exact hab)).trans hcw
      clear hcw
      by_cases hc : p[k] = 10
      · have hc10 : wr.cell? (ad.add k) = some (.int .u8 10) := by rw [hcell, hc]; rfl
        clear hcell
        obtain ⟨A', c', r1, r2, r3⟩ := cut_lh (P := Tryd.prog) 24 5 Tryd.underlying24 hj hy1 .i64 .i64 (some ad) p c fr k (fr : Int) (k : Int) rfl rfl hfk (by omega) hcap
        have hlen : ((p.take k).drop fr).length = k - fr := by rw [List.length_drop, List.length_take]; omega
        have HLN := Lib.hid (line_at p fr k hfk HNO.out (by rw [List.getElem?_eq_getElem hl, hc]))
        have HX := Lib.hid (And.intro r2 (And.intro (r3 w _ HRW.out) hc))
        rw [hlen] at r1
        have HLE := Lib.hid hlen
        clear r2 r3 hc hlen
        go_wp2_with (at_builtin; refine wpList_append_own _ rfl _ _ 70 rfl w.heap.size 24 i0 (.slice none 0 0) 1 24 Tryd.underlying70 hi hz0 hz1 hz2 rfl (by decide) v vs.length vs rfl (HO.out.alloc _) ⟨wr.heap.size, 0, none⟩ 1 1 [.slice A' (k - fr) c'] rfl ?qc1 ?qc2 ?qc3 ?qc4 ?qc5 ?qc6 ?_)
        case qc1 => rfl
        case qc2 => intro j u hj; exact news_one _ (by simp) _ j u hj
        case qc3 => intro u hu; simp at hu; subst hu; rfl
        case qc4 => unfold maxLen; omega
        case qc5 => omega
        case qc6 => simp; have := HB.out.size; omega
        intro v' w2 hown' hgrow _
        have HO' := Lib.hid hown'
        have HG := Lib.hid hgrow
        clear hown' hgrow
        go_wp2
        obtain ⟨q2, q3, q4⟩ := HX.out
        refine ⟨⟨v', _, done ++ [(p.take k).drop fr], k + 1, k + 1, rfl, rfl, rfl, by omega, by omega, ?_, ?_, HS.out.snoc (A := A') (c := c') q2 q3, ?_, ?_, ?_⟩, by simp only [intOf]; omega⟩
        · simp; omega
        · rw [HLE.out]; simpa using HO'.out
        · exact (HB.out.alloc HB.out.size _).grown HG.out (by simp; have := HB.out.size; omega) (fun i e => own_base HO.out i e)
        · intro j h1 h2; omega
        · rw [HT.out, HLN.out]; simp
      · have hcf := u8_lit' p[k] 10 (by omega) hc
        go_wp2
        have hno := HNO.out
        refine ⟨⟨v, vs, done, fr, k + 1, rfl, rfl, by go_num, by omega, by omega, by omega, HO.out, HS.out, HB.out, ?_, HT.out⟩, by simp only [intOf]; omega⟩
        intro j h1 h2
        by_cases hjk : j = k
        · subst hjk
          rw [List.getElem?_eq_getElem hl]
          intro e
          injection e with e
          exact hc e
        · exact hno j h1 (by omega)
    · have hkl : k = p.length := by omega
      have HKL := Lib.hid hkl
      clear hkl
      by_cases hf : fr < p.length
      · have hlen : (p.drop fr).length = p.length - fr := List.length_drop
        obtain ⟨A', c', r1, r2, r3⟩ := cut_l (P := Tryd.prog) 24 5 Tryd.underlying24 hj hy1 .i64 A p c fr (fr : Int) rfl (by omega) hcap
        have HLN := Lib.hid (line_end p fr hf (HKL.out ▸ HNO.out))
        have HX := Lib.hid (And.intro r2 (r3 w _ HRW.out))
        rw [hlen] at r1
        have HLE := Lib.hid hlen
        clear r2 r3 hlen
        go_wp2_with (at_builtin; refine wpList_append_own _ rfl _ _ 70 rfl w.heap.size 24 i0 (.slice none 0 0) 1 24 Tryd.underlying70 hi hz0 hz1 hz2 rfl (by decide) v vs.length vs rfl (HO.out.alloc _) ⟨wr.heap.size, 0, none⟩ 1 1 [.slice A' (p.length - fr) c'] rfl ?qd1 ?qd2 ?qd3 ?qd4 ?qd5 ?qd6 ?_)
        case qd1 => rfl
        case qd2 => intro j u hj; exact news_one _ (by simp) _ j u hj
        case qd3 => intro u hu; simp at hu; subst hu; rfl
        case qd4 => unfold maxLen; omega
        case qd5 => omega
        case qd6 => simp; have := HB.out.size; omega
        intro v' w2 hown' hgrow _
        have HO' := Lib.hid hown'
        have HG := Lib.hid hgrow
        clear hown' hgrow
        go_wp2
        go_ret
        obtain ⟨q2, q3⟩ := HX.out
        refine ⟨⟨v', vs ++ [.slice A' (p.drop fr).length c'], rfl, ?_, ?_⟩, ?_⟩
        · rw [HLE.out]; simpa using HO'.out
        · rw [HT.out, HLN.out]; exact HS.out.snoc q2 q3
        · exact (HB.out.alloc HB.out.size _).grown HG.out (by simp; have := HB.out.size; omega) (fun i e => own_base HO.out i e)
      · go_wp2
        go_ret
        refine ⟨⟨v, vs, rfl, HO.out, ?_⟩, HB.out⟩
        rw [HT.out, List.drop_of_length_le (by omega)]
        simpa [linesM_nil] using HS.out
end Go.Proofs.YtkfjnllbjlndlaaDoor
