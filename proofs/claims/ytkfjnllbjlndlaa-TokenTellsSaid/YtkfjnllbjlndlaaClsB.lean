/- What class.Range, riddleref02.Range, riddleref02.Of compute. -/
import Derived.Test.YtkfjnllbjlndlaaCls
namespace Go.Proofs.Ytkfjnllbjlndlaa
open Go.RowKit

def Cl.rg (lo : Int) : Nat → Cl
  | 0 => Cl.zero
  | n + 1 => (Cl.rg lo n).set (lo + n)
def Cl.range (lo hi : Int) : Cl := Cl.rg lo (hi - lo + 1).toNat

theorem and63i (x : Int) (h0 : 0 ≤ x) (h1 : x ≤ 255) : bits .and .i64 x 63 = x % 64 := by
  obtain ⟨n, rfl⟩ := Int.eq_ofNat_of_zero_le h0
  have hn : n < 256 := by omega
  have key : ∀ n : Fin 256, bits .and .i64 ((n : Nat) : Int) 63 = ((n : Nat) : Int) % 64 := by decide +kernel
  exact key ⟨n, hn⟩

set_option maxHeartbeats 4000000 in
theorem range_cls (w : World) (lo hi : Int) (hl0 : 0 ≤ lo) (hl1 : lo ≤ 255) (hh0 : 0 ≤ hi) (hh1 : hi ≤ 255) :
    Calls Try.prog 63 #[.int .u8 lo, .int .u8 hi] w fun e w' => e = .returned (Cl.range lo hi).v ∧ Below w.heap.size w w' := by
  go_enter Try.func63, Try.ntmps63
  go_wp2
  go_loopw [6] (fun k wr => ∃ (n : Nat), (n = 0 ∨ lo + n ≤ hi + 1) ∧ k = .int .i64 (lo + n) ∧ Bk wr w.heap.size 47 Cl.zero.cells ∧ Bk wr (w.heap.size + 1) 47 (Cl.rg lo n).cells ∧ Below w.heap.size w wr) (fun k _ => (256 - intOf k).toNat)
  case atStart => exact ⟨0, .inl rfl, by simp, (Bk.new _ _ _).alloc _, Bk.at_new _ _ _ _ (by simp), ((Below.refl _ _).alloc (Nat.le_refl _) _).alloc (by simp) _⟩
  case round =>
    obtain ⟨n, hk, rfl, hb0, hb1, hb⟩ := hrel
    have HX := Lib.hid (And.intro hb0 (And.intro hb1 hb))
    have hcell1 := hb1.cells
    have hfro0 := hb0.frozens
    have hfro1 := hb1.frozens
    have hcell0 := hb0.cells
    have ho : Cl.rg lo (n + 1) = (Cl.rg lo n).set (lo + n) := rfl
    have HO := Lib.hid ho
    have hr : ¬ (lo + n ≤ hi) → Cl.rg lo n = Cl.range lo hi := by
      intro hx
      unfold Cl.range
      congr 1
      omega
    clear ho hb0 hb1 hb
    obtain ⟨cc, hcc⟩ : ∃ cc, cc = Cl.rg lo n := ⟨_, rfl⟩
    rw [← hcc] at hcell1 hr
    have HCC := Lib.hid hcc
    have HR := Lib.hid hr
    clear hcc hr
    simp only [Cl.cells, Cl.zero] at hcell1 hcell0
    by_cases hlt : lo + n ≤ hi
    · obtain ⟨x, hx⟩ : ∃ x, x = lo + (n : Int) := ⟨_, rfl⟩
      have HXX := Lib.hid hx
      have hx0 : 0 ≤ x := by omega
      have hx1 : x ≤ 255 := by omega
      rw [← hx] at hlt ⊢
      clear hx hk
      have h63 := and63i x hx0 hx1
      have HX3 := Lib.hid HX.out.2.2
      have HE := Lib.hid (show cc.set x = Cl.rg lo (n + 1) by rw [HO.out, HCC.out, HXX.out])
      rcases four x hx0 hx1 with hq | hq | hq | hq
      · go_wp2
        go_region
        go_wp2
        have hf := HX.out.2.1.set 0 (.int .u64 (orW cc.a (bitW (x % 64))))
        rw [← HCC.out, Cl.set_cells cc x hx0 hx1 0 (by omega) _ rfl, HE.out] at hf
        exact ⟨⟨n + 1, .inr (by have := HXX.out; omega), by rw [show x + 1 = lo + ((n + 1 : Nat) : Int) from by have := HXX.out; omega], Bk.drew (HX.out.1.far (p := ⟨w.heap.size + 1, 0, none⟩) (by simp) _), Bk.drew hf, (HX3.out.setCell (p := ⟨w.heap.size + 1, 0, none⟩) (by simp) _).drew⟩, by simp [intOf]; omega⟩
      · go_wp2
        go_region
        go_wp2
        have hf := HX.out.2.1.set 1 (.int .u64 (orW cc.b (bitW (x % 64))))
        rw [← HCC.out, Cl.set_cells cc x hx0 hx1 1 (by omega) _ rfl, HE.out] at hf
        exact ⟨⟨n + 1, .inr (by have := HXX.out; omega), by rw [show x + 1 = lo + ((n + 1 : Nat) : Int) from by have := HXX.out; omega], Bk.drew (HX.out.1.far (p := ⟨w.heap.size + 1, 1, none⟩) (by simp) _), Bk.drew hf, (HX3.out.setCell (p := ⟨w.heap.size + 1, 1, none⟩) (by simp) _).drew⟩, by simp [intOf]; omega⟩
      · go_wp2
        go_region
        go_wp2
        have hf := HX.out.2.1.set 2 (.int .u64 (orW cc.c (bitW (x % 64))))
        rw [← HCC.out, Cl.set_cells cc x hx0 hx1 2 (by omega) _ rfl, HE.out] at hf
        exact ⟨⟨n + 1, .inr (by have := HXX.out; omega), by rw [show x + 1 = lo + ((n + 1 : Nat) : Int) from by have := HXX.out; omega], Bk.drew (HX.out.1.far (p := ⟨w.heap.size + 1, 2, none⟩) (by simp) _), Bk.drew hf, (HX3.out.setCell (p := ⟨w.heap.size + 1, 2, none⟩) (by simp) _).drew⟩, by simp [intOf]; omega⟩
      · go_wp2
        go_region
        go_wp2
        have hf := HX.out.2.1.set 3 (.int .u64 (orW cc.d (bitW (x % 64))))
        rw [← HCC.out, Cl.set_cells cc x hx0 hx1 3 (by omega) _ rfl, HE.out] at hf
        exact ⟨⟨n + 1, .inr (by have := HXX.out; omega), by rw [show x + 1 = lo + ((n + 1 : Nat) : Int) from by have := HXX.out; omega], Bk.drew (HX.out.1.far (p := ⟨w.heap.size + 1, 3, none⟩) (by simp) _), Bk.drew hf, (HX3.out.setCell (p := ⟨w.heap.size + 1, 3, none⟩) (by simp) _).drew⟩, by simp [intOf]; omega⟩
    · go_wp2
      have kk := Bk.putN HX.out.1 [.int .u64 cc.a, .int .u64 cc.b, .int .u64 cc.c, .int .u64 cc.d]
      have kc := kk.cells
      simp [setN] at kc
      refine bodyPost_ret (v := cc.v) (by simp [results, Try.results63, go_sem, kc, Cl.v]) rfl ⟨by rw [← HR.out (by omega), HCC.out], ?_⟩
      exact below_setN [_, _, _, _] HX.out.2.2 0 (Nat.le_refl _)

set_option maxHeartbeats 4000000 in
theorem refRange_cls (w : World) (lo hi : Int) (hl0 : 0 ≤ lo) (hl1 : lo ≤ 255) (hh0 : 0 ≤ hi) (hh1 : hi ≤ 255) :
    Calls Try.prog 83 #[.int .u8 lo, .int .u8 hi] w fun e w' => e = .returned (Cl.range lo hi).v ∧ Below w.heap.size w w' := by
  go_enter Try.func83, Try.ntmps83
  go_wp2
  go_loopw [6] (fun k wr => ∃ (n : Nat), (n = 0 ∨ lo + n ≤ hi + 1) ∧ k = .int .i64 (lo + n) ∧ Bk wr w.heap.size 47 Cl.zero.cells ∧ Bk wr (w.heap.size + 1) 47 (Cl.rg lo n).cells ∧ Below w.heap.size w wr) (fun k _ => (256 - intOf k).toNat)
  case atStart => exact ⟨0, .inl rfl, by simp, (Bk.new _ _ _).alloc _, Bk.at_new _ _ _ _ (by simp), ((Below.refl _ _).alloc (Nat.le_refl _) _).alloc (by simp) _⟩
  case round =>
    obtain ⟨n, hk, rfl, hb0, hb1, hb⟩ := hrel
    have HX := Lib.hid (And.intro hb0 (And.intro hb1 hb))
    have hcell1 := hb1.cells
    have hfro0 := hb0.frozens
    have hcell0 := hb0.cells
    have ho : Cl.rg lo (n + 1) = (Cl.rg lo n).set (lo + n) := rfl
    have HO := Lib.hid ho
    have hr : ¬ (lo + n ≤ hi) → Cl.rg lo n = Cl.range lo hi := by
      intro hx
      unfold Cl.range
      congr 1
      omega
    clear ho hb0 hb1 hb
    obtain ⟨cc, hcc⟩ : ∃ cc, cc = Cl.rg lo n := ⟨_, rfl⟩
    rw [← hcc] at hcell1 hr
    have HCC := Lib.hid hcc
    have HR := Lib.hid hr
    clear hcc hr
    simp only [Cl.cells, Cl.zero] at hcell1 hcell0
    by_cases hlt : lo + n ≤ hi
    · obtain ⟨x, hx⟩ : ∃ x, x = lo + (n : Int) := ⟨_, rfl⟩
      have HXX := Lib.hid hx
      have hx0 : 0 ≤ x := by omega
      have hx1 : x ≤ 255 := by omega
      rw [← hx] at hlt ⊢
      clear hx hk
      have HX3 := Lib.hid HX.out.2.2
      have HE := Lib.hid (show cc.set x = Cl.rg lo (n + 1) by rw [HO.out, HCC.out, HXX.out])
      go_wp2_with (go_at_call 87; refine (with_cls cc x hx0 hx1 _).mono ?_; rintro e w1 ⟨rfl, hb1⟩; unfold Cl.v; have HB1 := Lib.hid hb1; have hcellA := (HX.out.2.1.kept hb1).cells; have hfroA := (HX.out.2.1.kept hb1).frozens; clear hb1; simp only [Cl.cells] at hcellA)
      rw [HE.out]
      have h2 := Bk.putN (HX.out.2.1.kept HB1.out) [.int .u64 (Cl.rg lo (n + 1)).a, .int .u64 (Cl.rg lo (n + 1)).b, .int .u64 (Cl.rg lo (n + 1)).c, .int .u64 (Cl.rg lo (n + 1)).d]
      have h3 := Bk.farN (g' := w.heap.size + 1) [.int .u64 (Cl.rg lo (n + 1)).a, .int .u64 (Cl.rg lo (n + 1)).b, .int .u64 (Cl.rg lo (n + 1)).c, .int .u64 (Cl.rg lo (n + 1)).d] (HX.out.1.kept HB1.out) 0 (by omega)
      have h4 := below_setN (g := w.heap.size + 1) [.int .u64 (Cl.rg lo (n + 1)).a, .int .u64 (Cl.rg lo (n + 1)).b, .int .u64 (Cl.rg lo (n + 1)).c, .int .u64 (Cl.rg lo (n + 1)).d] (below_then HX3.out HB1.out HX3.out.size) 0 (by omega)
      exact ⟨⟨n + 1, .inr (by have := HXX.out; omega), by rw [show x + 1 = lo + ((n + 1 : Nat) : Int) from by have := HXX.out; omega], h3, h2, h4⟩, by simp [intOf]; omega⟩
    · go_wp2
      have kk := Bk.putN HX.out.1 [.int .u64 cc.a, .int .u64 cc.b, .int .u64 cc.c, .int .u64 cc.d]
      have kc := kk.cells
      simp [setN] at kc
      refine bodyPost_ret (v := cc.v) (by simp [results, Try.results83, go_sem, kc, Cl.v]) rfl ⟨by rw [← HR.out (by omega), HCC.out], ?_⟩
      exact below_setN [_, _, _, _] HX.out.2.2 0 (Nat.le_refl _)
end Go.Proofs.Ytkfjnllbjlndlaa
