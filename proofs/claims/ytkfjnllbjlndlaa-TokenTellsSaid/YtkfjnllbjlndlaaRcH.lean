/- The reference's first, Lex, Tokens. -/
import Derived.Test.YtkfjnllbjlndlaaTkP
import Derived.Test.YtkfjnllbjlndlaaOwn
import Derived.Maps.AppendAt
import Derived.Deep.CutRange
namespace Go.Proofs.Ytkfjnllbjlndlaa
open Go.RowKit

theorem infoTok : (Try.prog.info? 49).map (fun i => (i.zero, i.size, i.bytes)) = some (some Tok.zero.v, 11, 88) := by kernel_rfl

def endsM (o : List Tok × Nat × Option (Int × Int)) : Int × Int := match o.2.2 with | none => ((o.2.1 : Int), 0) | some (a, e) => (a, e)
def tcells (l : List Tok) : List Value := l.flatMap Tok.list
theorem tcells_snoc (l : List Tok) (t : Tok) : tcells (l ++ [t]) = tcells l ++ t.list := by simp [tcells]
theorem tlist_one (t : Tok) : ∀ u ∈ t.list, u.oneCell' = true := by
  intro u hu
  simp only [Tok.list, List.mem_cons, List.not_mem_nil, or_false] at hu
  rcases hu with rfl | rfl | rfl | rfl | rfl | rfl | rfl | rfl | rfl | rfl | rfl <;> rfl
theorem news_tok {W : World} (t : Tok) {g : Nat} (hg : g = W.heap.size) (T : TypeId) (j : Nat) (u : Value) (h : t.list[j]? = some u) : (W.alloc (.cells t.list.toArray T)).cell? ((⟨g, 0, none⟩ : Addr).add j) = some u := by
  subst hg
  have h2 : (⟨W.heap.size, 0, none⟩ : Addr).add j = ⟨W.heap.size, j, none⟩ := by unfold Addr.add; split <;> simp_all
  rw [h2, (Bk.new W T t.list.toArray).cells j]
  simpa using h

set_option maxRecDepth 100000 in
set_option maxHeartbeats 1000000 in
theorem rfirst_any (w : World) (A : Option Addr) (c : Nat) (p : List UInt8) (hr : RdB w w.heap.size A p) (hs : p.length ≤ 1024) :
    Calls Try.prog 35 #[.slice A p.length c] w fun e w' => (∃ v, e = .returned (.tuple #[v, .int .i64 (endsM (toksA p)).1, .int .i64 (endsM (toksA p)).2]) ∧ w'.ownsRow w.heap.size 49 11 v (toksA p).1.length (tcells (toksA p).1)) ∧ Below w.heap.size w w' := by
  obtain ⟨i0, hi, hz0, hz1, hz2⟩ := info_parts infoTok
  have HRW := Lib.hid hr
  clear hr
  go_enter Try.func35, Try.ntmps35
  go_wp2
  go_loopw [5, 6] (fun z q wr => ∃ (v : Value) (k : Nat) (pre : List Tok), v = z ∧ q = .int .i64 k ∧ k ≤ p.length ∧ pre.length ≤ k ∧ wr.ownsRow w.heap.size 49 11 v pre.length (tcells pre) ∧ Below w.heap.size w wr ∧ toksA p = (pre ++ (toksM p p.length k).1, (toksM p p.length k).2)) (fun _ q _ => p.length - (intOf q).toNat)
  case atStart => exact ⟨_, 0, [], rfl, rfl, by omega, by simp, World.ownsRow_nil _ _ _ _, Below.refl _ _, rfl⟩
  case round =>
    obtain ⟨v, k, pre, rfl, rfl, hk, hpl, hown, hB, hT⟩ := hrel
    have HO := Lib.hid hown
    have HB := Lib.hid hB
    have HT := Lib.hid hT
    have hrr : RdB wr wr.heap.size A p := Reads.more (Reads.below HRW.out hB) hB.size
    have HRR := Lib.hid hrr
    clear hown hB hT hrr
    by_cases hl : k < p.length
    · rcases ho : oneM p k with ⟨t, k1⟩ | ⟨a, er⟩
      · obtain ⟨f1, f2, f3⟩ := oneM_ok p k t k1 hl ho
        have HOK := Lib.hid ho
        clear ho
        go_upto_region 8 with (go_at_call 47; refine (rone_any _ A c p k HRR.out hs hl).mono ?_; rintro e w1 ⟨hres, hb⟩; rw [HOK.out] at hres; obtain ⟨t0, rfl, ht0⟩ := hres; have HT0 := Lib.hid ht0; have HB1 := Lib.hid hb; clear ht0 hb; unfold Tok.v)
        go_wp2_with (at_builtin; refine wpList_append_own _ rfl _ _ 41 rfl w.heap.size 49 i0 Tok.zero.v 11 88 Try.underlying41 hi hz0 hz1 hz2 rfl (by decide) v pre.length (tcells pre) rfl (((own_below HO.out HB1.out).alloc _).alloc _) ⟨w1.heap.size + 1, 0, none⟩ 1 1 ({ t0 with at_ := (k : Int) } : Tok).list rfl ?qc1 ?qc2 ?qc3 ?qc4 ?qc5 ?qc6 ?_)
        case qc1 => rfl
        case qc2 => intro j u hj; exact news_tok { t0 with at_ := (k : Int) } (by simp) _ j u hj
        case qc3 => exact tlist_one _
        case qc4 => unfold maxLen; omega
        case qc5 => omega
        case qc6 => simp; have := HB.out.size; have := HB1.out.size; omega
        intro v' w2 hown' hgrow _
        have HO' := Lib.hid hown'
        have HG := Lib.hid hgrow
        clear hown' hgrow
        go_wp2
        have HT1 := toksM_ok p k k1 t hl HOK.out
        refine ⟨⟨v', k1, pre ++ [t], rfl, rfl, f2, by simp; omega, ?_, ?_, ?_⟩, by simp only [intOf]; omega⟩
        · rw [tcells_snoc, ← HT0.out]; simpa using HO'.out
        · exact (((below_then HB.out HB1.out HB.out.size).alloc (by have := HB.out.size; have := HB1.out.size; omega) _).alloc (by simp; have := HB.out.size; have := HB1.out.size; omega) _).grown HG.out (by simp; have := HB.out.size; have := HB1.out.size; omega) (fun i e => own_base HO.out i e)
        · rw [HT.out, HT1]; simp
      · have HOK := Lib.hid ho
        clear ho
        go_wp2_with (go_at_call 47; refine (rone_any _ A c p k HRR.out hs hl).mono ?_; rintro e w1 ⟨hres, hb⟩; rw [HOK.out] at hres; obtain ⟨t0, rfl, her⟩ := hres; have her1 : (er != 0) = true := bne_iff_ne.2 her; have HB1 := Lib.hid hb; clear her hb; unfold Tok.v)
        go_ret3
        have hT2 := toksM_bad p k a er hl HOK.out
        rw [HT.out, hT2]
        exact ⟨⟨v, rfl, by simpa using own_below HO.out HB1.out |>.alloc _⟩, (below_then HB.out HB1.out HB.out.size).alloc (by have := HB.out.size; have := HB1.out.size; omega) _⟩
    · have hT2 := toksM_end p p.length k (by omega)
      have hkl : k = p.length := by omega
      have HT2 := Lib.hid hT2
      clear hT2 hkl
      go_wp2
      go_ret3
      rw [HT.out, HT2.out]
      exact ⟨⟨v, rfl, by simpa using HO.out⟩, HB.out⟩
end Go.Proofs.Ytkfjnllbjlndlaa
