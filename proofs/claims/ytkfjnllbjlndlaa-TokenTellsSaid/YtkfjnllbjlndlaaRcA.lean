/- The reference's small functions: hex, letter, digit, aByte, aClass, classOf, unit's word. -/
import Derived.Test.YtkfjnllbjlndlaaStP
import Derived.Test.YtkfjnllbjlndlaaClsR
import Derived.Test.YtkfjnllbjlndlaaClsE
namespace Go.Proofs.Ytkfjnllbjlndlaa
open Go.RowKit

theorem rdig_any (x : Int) (w : World) (h0 : 0 ≤ x) (h1 : x ≤ 255) : Calls Try.prog 79 #[.int .u8 x] w fun e w' => e = .returned (.bool (digM x)) ∧ w = w' := by
  go_enter Try.func79, Try.ntmps79
  go_wp2
  all_goals
    go_ret
    exact ⟨ret_bool (by simp [digM]; try omega), rfl⟩

set_option maxHeartbeats 1000000 in
theorem rlet_any (x : Int) (w : World) (h0 : 0 ≤ x) (h1 : x ≤ 255) : Calls Try.prog 78 #[.int .u8 x] w fun e w' => e = .returned (.bool (letM x)) ∧ w = w' := by
  go_enter Try.func78, Try.ntmps78
  go_wp2
  all_goals
    go_ret
    exact ⟨ret_bool (by rw [letM, Bool.eq_iff_iff]; simp; omega), rfl⟩

def hexV (x : Int) : Int := (nibM x).getD (-1)

set_option maxHeartbeats 1000000 in
theorem rhex_any (x : Int) (w : World) (h0 : 0 ≤ x) (h1 : x ≤ 255) : Calls Try.prog 77 #[.int .u8 x] w fun e w' => e = .returned (.int .i64 (hexV x)) ∧ w = w' := by
  by_cases hd : 48 ≤ x ∧ x ≤ 57
  · have hn : hexV x = x - 48 := by rw [hexV, nibM, if_pos hd]; rfl
    have hdm : digM x = true := by simpa [digM] using hd
    rw [hn]
    obtain ⟨a1, a2⟩ := hd
    have HD := Lib.hid hdm
    clear hn hdm
    go_enter Try.func77, Try.ntmps77
    go_wp2_with (go_at_call 79; refine (rdig_any x _ h0 h1).mono ?_; rintro e w1 ⟨rfl, rfl⟩; rw [HD.out])
    go_ret
    exact ⟨rfl, rfl⟩
  · have hdm : digM x = false := by simpa [digM] using hd
    have HD := Lib.hid hdm
    clear hdm
    by_cases ha : 97 ≤ x ∧ x ≤ 102
    · have hn : hexV x = x - 87 := by rw [hexV, nibM, if_neg hd, if_pos ha]; rfl
      rw [hn]
      obtain ⟨a1, a2⟩ := ha
      clear hn hd
      go_enter Try.func77, Try.ntmps77
      go_wp2_with (go_at_call 79; refine (rdig_any x _ h0 h1).mono ?_; rintro e w1 ⟨rfl, rfl⟩; rw [HD.out])
      go_ret
      exact ⟨by rw [show x - 87 = x - 97 + 10 from by omega]; rfl, rfl⟩
    · by_cases hA : 65 ≤ x ∧ x ≤ 70
      · have hn : hexV x = x - 55 := by rw [hexV, nibM, if_neg hd, if_neg ha, if_pos hA]; rfl
        rw [hn]
        obtain ⟨a1, a2⟩ := hA
        have a3 : ¬ 97 ≤ x := by omega
        clear hn hd ha
        go_enter Try.func77, Try.ntmps77
        go_wp2_with (go_at_call 79; refine (rdig_any x _ h0 h1).mono ?_; rintro e w1 ⟨rfl, rfl⟩; rw [HD.out])
        go_ret
        exact ⟨by rw [show x - 55 = x - 65 + 10 from by omega]; rfl, rfl⟩
      · have hn : hexV x = -1 := by rw [hexV, nibM, if_neg hd, if_neg ha, if_neg hA]; rfl
        rw [hn]
        clear hn
        go_enter Try.func77, Try.ntmps77
        go_wp2_with (go_at_call 79; refine (rdig_any x _ h0 h1).mono ?_; rintro e w1 ⟨rfl, rfl⟩; rw [HD.out])
        all_goals first | (exfalso; omega) | (go_ret; exact ⟨rfl, rfl⟩)

/-- A token of the call's own; what lay before the call is as it was. -/
abbrev KT (w W : World) (t : Tok) : Prop := Kp w.heap.size 49 t.cells w W
theorem KT.fin {w W : World} {t : Tok} (h : KT w W t) (t' : Tok) : KT w (setN W w.heap.size 0 t'.list) t' := ⟨h.1.putN t'.list, below_setN _ h.2 0 (Nat.le_refl _)⟩
theorem KT.drewN {w W : World} {t : Tok} (h : KT w W t) (n : Nat) : KT w (W.drewN n) t := ⟨h.1.drewN n, below_drewN' h.2 n⟩
theorem KT.new (w : World) (t : Tok) : KT w (w.alloc (.cells t.cells 49)) t := Kp.new w _ _

theorem tok_one {fn : Func} {Q : Ending → World → Prop} {tmps : Array Value} {W : World} {z : Nat} {t : Tok} (hr : fn.results = #[.cell 2 49]) (hz : Bk W z 49 t.cells)
    (h2 : tmps[2]?.getD undef = .pointer (some ⟨z, 0, none⟩)) (hQ : Q (.returned t.v) W) : bodyPost Try.prog fn Q Exit.ret { tmps := tmps, defers := [] } W := by
  have kc := tok_cells hz
  exact bodyPost_ret (v := t.v) (by simp [results, hr, go_sem, h2, kc, Tok.v]) rfl hQ
theorem tok_two {fn : Func} {Q : Ending → World → Prop} {tmps : Array Value} {W : World} {z : Nat} {t : Tok} {a : Int} (hr : fn.results = #[.cell 4 49, .tmp 5]) (hz : Bk W z 49 t.cells)
    (h2 : tmps[4]?.getD undef = .pointer (some ⟨z, 0, none⟩)) (h3 : tmps[5]?.getD undef = .int .i64 a) (hQ : Q (.returned (.tuple #[t.v, .int .i64 a])) W) : bodyPost Try.prog fn Q Exit.ret { tmps := tmps, defers := [] } W := by
  have kc := tok_cells hz
  exact bodyPost_ret (v := .tuple #[t.v, .int .i64 a]) (by simp [results, hr, go_sem, h2, h3, kc, Tok.v]) rfl hQ
theorem tok_three {fn : Func} {Q : Ending → World → Prop} {tmps : Array Value} {W : World} {z : Nat} {t : Tok} {a b : Int} (hr : fn.results = #[.cell 4 49, .tmp 5, .tmp 6]) (hz : Bk W z 49 t.cells)
    (h2 : tmps[4]?.getD undef = .pointer (some ⟨z, 0, none⟩)) (h3 : tmps[5]?.getD undef = .int .i64 a) (h4 : tmps[6]?.getD undef = .int .i64 b) (hQ : Q (.returned (.tuple #[t.v, .int .i64 a, .int .i64 b])) W) : bodyPost Try.prog fn Q Exit.ret { tmps := tmps, defers := [] } W := by
  have kc := tok_cells hz
  exact bodyPost_ret (v := .tuple #[t.v, .int .i64 a, .int .i64 b]) (by simp [results, hr, go_sem, h2, h3, h4, kc, Tok.v]) rfl hQ

theorem abyte_any (b : Int) (w : World) : Calls Try.prog 69 #[.int .u8 b] w fun e w' => e = .returned (Tok.ofByte b).v ∧ Below w.heap.size w w' := by
  go_enter Try.func69, Try.ntmps69
  go_wp2
  have FE := KT.new w (Tok.ofByte b)
  simp only [Tok.ofByte, Tok.cells, Tok.zero, Cl.zero] at FE
  exact tok_one (t := Tok.ofByte b) rfl FE.1 rfl ⟨rfl, FE.2⟩

theorem aclass_any (c : Cl) (w : World) : Calls Try.prog 72 #[c.v] w fun e w' => e = .returned (Tok.ofCls c).v ∧ Below w.heap.size w w' := by
  show Calls Try.prog 72 #[.agg #[_, _, _, _]] w _
  go_enter Try.func72, Try.ntmps72
  go_wp2
  have hz := Bk.at_new (w.alloc (.cells c.cells 47)) 49 (Tok.ofCls c).cells (w.heap.size + 1) (by simp)
  have hb := ((Below.refl w.heap.size w).alloc (Nat.le_refl _) (.cells c.cells 47)).alloc (by simp) (.cells (Tok.ofCls c).cells 49)
  exact tok_one (t := Tok.ofCls c) rfl hz rfl ⟨rfl, hb⟩

theorem cls_one {fn : Func} {Q : Ending → World → Prop} {tmps : Array Value} {W : World} {z : Nat} {c : Cl} (hr : fn.results = #[.cell 2 47]) (hz : Bk W z 47 c.cells)
    (h2 : tmps[2]?.getD undef = .pointer (some ⟨z, 0, none⟩)) (hQ : Q (.returned c.v) W) : bodyPost Try.prog fn Q Exit.ret { tmps := tmps, defers := [] } W := by
  have kc := hz.cells
  simp only [Cl.cells] at kc
  exact bodyPost_ret (v := c.v) (by simp [results, hr, go_sem, h2, kc, Cl.v]) rfl hQ

def rtok (o : Option (Tok × Nat)) : Tok := match o with | some r => r.1 | none => Tok.zero
def rend (o : Option (Tok × Nat)) : Int := match o with | some r => (r.2 : Int) | none => 0

set_option maxHeartbeats 400000 in
theorem classOf_any (t : Tok) (w : World) (h0 : 0 ≤ t.byte) (h1 : t.byte ≤ 255) (hk : t.kind = 1 ∨ t.kind = 2) : Calls Try.prog 82 #[t.v] w fun e w' => e = .returned t.ofUnit.v ∧ Below w.heap.size w w' := by
  obtain ⟨kd, by_, cl, nt, ls, ms, lz, at_⟩ := t
  simp only at h0 h1 hk
  show Calls Try.prog 82 #[.agg #[_, _, _, _, _, _, _, _, _, _, _]] w _
  rcases hk with rfl | rfl
  · have hO : (⟨1, by_, cl, nt, ls, ms, lz, at_⟩ : Tok).ofUnit = Cl.zero.set by_ := if_pos rfl
    obtain ⟨bb, hbb⟩ : ∃ bb : UInt8, by_ = (bb.toNat : Int) := ⟨UInt8.ofNat by_.toNat, by rw [UInt8.toNat_ofNat']; omega⟩
    subst hbb
    rw [hO]
    have HO := Lib.hid (show Cl.zero.set (bb.toNat : Int) = Cl.of [bb] from rfl)
    clear hO h0 h1
    go_enter Try.func82, Try.ntmps82
    have k0 := (Below.refl w.heap.size w).alloc (Nat.le_refl _) (.cells (⟨1, (bb.toNat : Int), cl, nt, ls, ms, lz, at_⟩ : Tok).cells 49)
    have k1 := (k0.alloc (by simp) (.cells Cl.zero.cells 47)).alloc (by simp; omega) (.cells #[.int .u8 bb.toNat] 5)
    have hz := fun o => (Bk.at_new (w.alloc (.cells (⟨1, (bb.toNat : Int), cl, nt, ls, ms, lz, at_⟩ : Tok).cells 49)) 47 Cl.zero.cells (w.heap.size + 1) (by simp)).alloc o
    have K1 := Lib.hid k1
    have HZ := Lib.hid hz
    clear k0 k1 hz
    go_wp2_with (go_at_call 86; refine (refOf_cls _ _ bb _ ?_).mono ?_; exact cell_of (Bk.at_new _ _ #[.int .u8 bb.toNat] _ (by simp)) 0 _ rfl; rintro e w1 ⟨rfl, hb1⟩; have hcA := ((HZ.out _).kept hb1).cells; have hfA := ((HZ.out _).kept hb1).frozens; have HB := Lib.hid hb1; clear hb1; simp only [Cl.cells, Cl.zero] at hcA; unfold Cl.v)
    have k2 := ((HZ.out _).kept HB.out).putN (Cl.of [bb]).list
    have k3 := below_setN (Cl.of [bb]).list (below_then K1.out HB.out (by simp; omega)) 0 (by simp : w.heap.size ≤ w.heap.size + 1)
    rw [HO.out]
    simp only [setN, Cl.list, Nat.reduceAdd] at k2 k3
    exact cls_one rfl k2 rfl ⟨rfl, k3⟩
  · have hO : (⟨2, by_, cl, nt, ls, ms, lz, at_⟩ : Tok).ofUnit = cl := if_neg (by simp)
    rw [hO]
    clear hO
    go_enter Try.func82, Try.ntmps82
    go_wp2
    have k0 := (Below.refl w.heap.size w).alloc (Nat.le_refl _) (.cells (⟨2, by_, cl, nt, ls, ms, lz, at_⟩ : Tok).cells 49)
    have k1 := k0.alloc (by simp) (.cells cl.cells 47)
    exact cls_one rfl (Bk.at_new _ _ cl.cells (w.heap.size + 1) (by simp)) rfl ⟨rfl, k1⟩
end Go.Proofs.Ytkfjnllbjlndlaa
