/- What riddleref02.Union computes. -/
import Derived.Test.YtkfjnllbjlndlaaClsC
namespace Go.Proofs.Ytkfjnllbjlndlaa
open Go.RowKit

set_option maxRecDepth 100000 in
set_option maxHeartbeats 400000 in
theorem refUnion_cls (w : World) (g : Nat) (cap : Nat) (l : List Cl) (h : Bk w g 47 (l.flatMap Cl.list).toArray) (hl : l.length ≤ 1000000) :
    Calls Try.prog 81 #[.slice (some ⟨g, 0, none⟩) l.length cap] w fun e w' => e = .returned (Cl.union l).v ∧ Below w.heap.size w w' := by
  have H := Lib.hid h
  clear h
  go_enter Try.func81, Try.ntmps81
  go_wp2
  go_loopw [4] (fun k wr => ∃ (n : Nat), n ≤ l.length ∧ k = .int .i64 n ∧ Bk wr w.heap.size 47 Cl.zero.cells ∧ Bk wr (w.heap.size + 1) 47 (Cl.union (l.take n)).cells ∧ Below w.heap.size w wr) (fun k _ => l.length - (intOf k).toNat)
  case atStart => exact ⟨0, by omega, rfl, (Bk.new _ _ _).alloc _, Bk.at_new _ _ _ _ (by simp), ((Below.refl _ _).alloc (Nat.le_refl _) _).alloc (by simp) _⟩
  case round =>
    obtain ⟨n, hk, rfl, hb0, hb1, hb⟩ := hrel
    have HX := Lib.hid (And.intro hb0 (And.intro hb1 hb))
    have hsrc := (H.out.below hb H.out.lt).cells
    have hfro0 := hb0.frozens
    have hfro1 := hb1.frozens
    have hcell0 := hb0.cells
    have hcellN := hb1.cells
    have hgne : g ≠ w.heap.size + 1 := by have := H.out.lt; omega
    clear hb0 hb1 hb
    by_cases hlt : n < l.length
    · have s0 : wr.cell? ⟨g, n * 4, none⟩ = some (.int .u64 (l[n]).a) := (hsrc (n * 4)).trans (by rw [List.getElem?_toArray]; exact flat_get l n hlt 0 (by omega))
      have s1 : wr.cell? ⟨g, n * 4 + 1, none⟩ = some (.int .u64 (l[n]).b) := (hsrc (n * 4 + 1)).trans (by rw [List.getElem?_toArray]; exact flat_get l n hlt 1 (by omega))
      have s2 : wr.cell? ⟨g, n * 4 + 2, none⟩ = some (.int .u64 (l[n]).c) := (hsrc (n * 4 + 2)).trans (by rw [List.getElem?_toArray]; exact flat_get l n hlt 2 (by omega))
      have s3 : wr.cell? ⟨g, n * 4 + 3, none⟩ = some (.int .u64 (l[n]).d) := (hsrc (n * 4 + 3)).trans (by rw [List.getElem?_toArray]; exact flat_get l n hlt 3 (by omega))
      have ho : Cl.union (l.take (n + 1)) = (Cl.union (l.take n)).or l[n] := by unfold Cl.union; rw [List.take_succ_eq_append_getElem hlt, List.foldl_append]; rfl
      have HO := Lib.hid ho
      clear ho hsrc
      generalize l[n] = cn at *
      obtain ⟨cc, hcc⟩ : ∃ cc, cc = Cl.union (l.take n) := ⟨_, rfl⟩
      rw [← hcc] at hcellN
      have HCC := Lib.hid hcc
      clear hcc
      simp only [Cl.cells, Cl.zero] at hcellN hcell0
      have HX3 := Lib.hid HX.out.2.2
      go_wp2
      refine wp_loop_rounds 5 ?_
      rw [rounds_succ]; go_wp2; go_region; go_wp2
      rw [rounds_succ]; go_wp2; go_region; go_wp2
      rw [rounds_succ]; go_wp2; go_region; go_wp2
      rw [rounds_succ]; go_wp2; go_region; go_wp2
      rw [rounds_succ]; go_wp2
      have HE := Lib.hid (show cc.or cn = Cl.union (l.take (n + 1)) by rw [HO.out, HCC.out])
      have h2 := Bk.putN HX.out.2.1 [.int .u64 (cc.or cn).a, .int .u64 (cc.or cn).b, .int .u64 (cc.or cn).c, .int .u64 (cc.or cn).d]
      have h3 := Bk.farN (g' := w.heap.size + 1) [.int .u64 (cc.or cn).a, .int .u64 (cc.or cn).b, .int .u64 (cc.or cn).c, .int .u64 (cc.or cn).d] HX.out.1 0 (by omega)
      have h4 := below_setN (g := w.heap.size + 1) [.int .u64 (cc.or cn).a, .int .u64 (cc.or cn).b, .int .u64 (cc.or cn).c, .int .u64 (cc.or cn).d] HX3.out 0 (by omega)
      simp only [setN, Nat.reduceAdd, Cl.or, orW] at h2 h3 h4
      have hE : (#[.int .u64 (bits .or .u64 cc.a cn.a), .int .u64 (bits .or .u64 cc.b cn.b), .int .u64 (bits .or .u64 cc.c cn.c), .int .u64 (bits .or .u64 cc.d cn.d)] : Array Value) = (Cl.union (l.take (n + 1))).cells := by rw [← HE.out]; rfl
      rw [hE] at h2
      trace_state
      exact ⟨⟨n + 1, by omega, by go_num, h3.drew.drew.drew.drew, h2.drew.drew.drew.drew, h4.drew.drew.drew.drew⟩, by simp [intOf]; omega⟩
    · have he : Cl.union (l.take n) = Cl.union l := by rw [List.take_of_length_le (by omega)]
      rw [he] at HX hcellN
      obtain ⟨cc, hcc⟩ : ∃ cc, cc = Cl.union l := ⟨_, rfl⟩
      rw [← hcc] at hcellN HX
      have HCC := Lib.hid hcc
      clear hcc he hsrc
      simp only [Cl.cells, Cl.zero] at hcellN hcell0
      go_wp2
      have kk := Bk.putN HX.out.1 [.int .u64 cc.a, .int .u64 cc.b, .int .u64 cc.c, .int .u64 cc.d]
      have kc := kk.cells
      simp [setN] at kc
      refine bodyPost_ret (v := cc.v) (by simp [results, Try.results81, go_sem, kc, Cl.v]) rfl ⟨by rw [HCC.out], ?_⟩
      exact below_setN [_, _, _, _] HX.out.2.2 0 (Nat.le_refl _)
end Go.Proofs.Ytkfjnllbjlndlaa
