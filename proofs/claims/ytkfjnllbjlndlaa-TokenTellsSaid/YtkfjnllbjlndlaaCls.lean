/- What the functions on classes of bytes compute: class.Of, Range, Not, Full, Union and riddleref02's. -/
import Derived.Test.YtkfjnllbjlndlaaProg
import Derived.Test.YtkfjnllbjlndlaaMem
import Derived.WalkKit
import Derived.WalkSpells
import Derived.WalkLawsBesides
import Derived.LoopTactic
import Derived.LoopN
import Derived.Handy
import Derived.BigRegion
import Derived.RegionTactic
namespace Go.Proofs.Ytkfjnllbjlndlaa
open Go.RowKit

structure Cl where
  a : Int
  b : Int
  c : Int
  d : Int
  deriving DecidableEq

def Cl.v (c : Cl) : Value := .agg #[.int .u64 c.a, .int .u64 c.b, .int .u64 c.c, .int .u64 c.d]
def Cl.cells (c : Cl) : Array Value := #[.int .u64 c.a, .int .u64 c.b, .int .u64 c.c, .int .u64 c.d]
def Cl.zero : Cl := ⟨0, 0, 0, 0⟩
def orW (a b : Int) : Int := bits .or .u64 a b
def bitW (r : Int) : Int := IntKind.u64.wrap (2 ^ r.toNat)
def Cl.set (c : Cl) (x : Int) : Cl :=
  if x / 64 = 0 then { c with a := orW c.a (bitW (x % 64)) } else if x / 64 = 1 then { c with b := orW c.b (bitW (x % 64)) }
  else if x / 64 = 2 then { c with c := orW c.c (bitW (x % 64)) } else { c with d := orW c.d (bitW (x % 64)) }

theorem four (x : Int) (h0 : 0 ≤ x) (h1 : x ≤ 255) : x / 64 = 0 ∨ x / 64 = 1 ∨ x / 64 = 2 ∨ x / 64 = 3 := by omega

set_option maxHeartbeats 1000000 in
theorem with_cls (c : Cl) (x : Int) (h0 : 0 ≤ x) (h1 : x ≤ 255) (w : World) :
    Calls Try.prog 87 #[c.v, .int .u8 x] w fun e w' => e = .returned (c.set x).v ∧ Below w.heap.size w w' := by
  rcases four x h0 h1 with hq | hq | hq | hq
  all_goals
    show Calls Try.prog 87 #[.agg #[_, _, _, _], _] w _
    have hs : c.set x = c.set x := rfl
    conv at hs => rhs; unfold Cl.set
    simp only [hq, if_true, if_false, Int.reduceEq] at hs
    rw [hs]
    clear hs
    go_enter Try.func87, Try.ntmps87
    go_wp2
    go_returns
    exact ⟨rfl, ((Below.refl _ _).alloc (Nat.le_refl _) _).alloc (by simp) _⟩

/-- A store into the word of a byte. -/
theorem Cl.set_cells (c : Cl) (x : Int) (h0 : 0 ≤ x) (h1 : x ≤ 255) (j : Nat) (hj : (j : Int) = x / 64) (u : Int) (hu : c.cells[j]? = some (.int .u64 u)) :
    c.cells.setIfInBounds j (.int .u64 (orW u (bitW (x % 64)))) = (c.set x).cells := by
  rcases four x h0 h1 with hq | hq | hq | hq
  · rw [hq] at hj
    obtain rfl : j = 0 := by omega
    simp only [Cl.cells] at hu
    have hu' : some _ = some (Value.int .u64 u) := hu
    simp at hu'
    subst hu'
    simp [Cl.set, Cl.cells, hq]
  · rw [hq] at hj
    obtain rfl : j = 1 := by omega
    simp only [Cl.cells] at hu
    have hu' : some _ = some (Value.int .u64 u) := hu
    simp at hu'
    subst hu'
    simp [Cl.set, Cl.cells, hq]
  · rw [hq] at hj
    obtain rfl : j = 2 := by omega
    simp only [Cl.cells] at hu
    have hu' : some _ = some (Value.int .u64 u) := hu
    simp at hu'
    subst hu'
    simp [Cl.set, Cl.cells, hq]
  · rw [hq] at hj
    obtain rfl : j = 3 := by omega
    simp only [Cl.cells] at hu
    have hu' : some _ = some (Value.int .u64 u) := hu
    simp at hu'
    subst hu'
    simp [Cl.set, Cl.cells, hq]

theorem and63 (x : Int) (h0 : 0 ≤ x) (h1 : x ≤ 255) : bits .and .u8 x 63 = x % 64 := by
  obtain ⟨n, rfl⟩ := Int.eq_ofNat_of_zero_le h0
  have hn : n < 256 := by omega
  have key : ∀ n : Fin 256, bits .and .u8 ((n : Nat) : Int) 63 = ((n : Nat) : Int) % 64 := by decide +kernel
  exact key ⟨n, hn⟩

def Cl.of (bs : List UInt8) : Cl := bs.foldl (fun c b => c.set b.toNat) Cl.zero

set_option maxHeartbeats 4000000 in
theorem of_cls (w : World) (A : Option Addr) (cap : Nat) (bs : List UInt8) (h : RdB w w.heap.size A bs) (hn : bs.length ≤ 140737488351232) :
    Calls Try.prog 61 #[.slice A bs.length cap] w fun e w' => e = .returned (Cl.of bs).v ∧ Below w.heap.size w w' := by
  have H := Lib.hid h
  clear h
  go_enter Try.func61, Try.ntmps61
  go_wp2
  go_loopw [8] (fun k wr => ∃ (n : Nat), n ≤ bs.length ∧ k = .int .i64 n ∧ Bk wr w.heap.size 47 Cl.zero.cells ∧ Bk wr (w.heap.size + 1) 47 (Cl.of (bs.take n)).cells ∧ Below w.heap.size w wr) (fun k _ => bs.length - (intOf k).toNat)
  case atStart => exact ⟨0, by omega, rfl, (Bk.new _ _ _).alloc _, Bk.at_new _ _ _ _ (by simp), ((Below.refl _ _).alloc (Nat.le_refl _) _).alloc (by simp) _⟩
  case round =>
    obtain ⟨n, hk, rfl, hb0, hb1, hb⟩ := hrel
    have HX := Lib.hid (And.intro hb0 (And.intro hb1 hb))
    have hrb := Lib.hid (Reads.below H.out hb)
    by_cases hlt : n < bs.length
    · have hfro1 := hb1.frozens
      have hfro0 := hb0.frozens
      obtain ⟨ad, rfl, _, hcell⟩ := RdB.at_ hrb.out hlt
      have ht := take_snocL bs n hlt
      have hc0 : 0 ≤ ((bs[n]).toNat : Int) := by omega
      have hc1 : ((bs[n]).toNat : Int) ≤ 255 := by have := (bs[n]).toNat_lt; omega
      have ho : Cl.of (bs.take (n + 1)) = (Cl.of (bs.take n)).set (bs[n]).toNat := by unfold Cl.of; rw [ht, List.foldl_append]; rfl
      have hcell1 := hb1.cells
      have HO := Lib.hid ho
      clear ho hb0 hb1 hb ht
      generalize ((bs[n]).toNat : Int) = x at *
      have h63 := and63 x hc0 hc1
      obtain ⟨cc, hcc⟩ : ∃ cc, cc = Cl.of (bs.take n) := ⟨_, rfl⟩
      rw [← hcc] at hcell1
      have HCC := Lib.hid hcc
      clear hcc
      simp only [Cl.cells] at hcell1
      have HX3 := Lib.hid HX.out.2.2
      have HE := Lib.hid (show cc.set x = Cl.of (bs.take (n + 1)) by rw [HO.out, HCC.out])
      rcases four x hc0 hc1 with hq | hq | hq | hq
      · go_wp2
        have hf := HX.out.2.1.set 0 (.int .u64 (orW cc.a (bitW (x % 64))))
        rw [← HCC.out, Cl.set_cells cc x hc0 hc1 0 (by omega) _ rfl, HE.out] at hf
        exact ⟨⟨n + 1, by omega, by go_num, HX.out.1.far (p := ⟨w.heap.size + 1, 0, none⟩) (by simp) _, hf, HX3.out.setCell (p := ⟨w.heap.size + 1, 0, none⟩) (by simp) _⟩, by simp [intOf]; omega⟩
      · go_wp2
        have hf := HX.out.2.1.set 1 (.int .u64 (orW cc.b (bitW (x % 64))))
        rw [← HCC.out, Cl.set_cells cc x hc0 hc1 1 (by omega) _ rfl, HE.out] at hf
        exact ⟨⟨n + 1, by omega, by go_num, HX.out.1.far (p := ⟨w.heap.size + 1, 1, none⟩) (by simp) _, hf, HX3.out.setCell (p := ⟨w.heap.size + 1, 1, none⟩) (by simp) _⟩, by simp [intOf]; omega⟩
      · go_wp2
        have hf := HX.out.2.1.set 2 (.int .u64 (orW cc.c (bitW (x % 64))))
        rw [← HCC.out, Cl.set_cells cc x hc0 hc1 2 (by omega) _ rfl, HE.out] at hf
        exact ⟨⟨n + 1, by omega, by go_num, HX.out.1.far (p := ⟨w.heap.size + 1, 2, none⟩) (by simp) _, hf, HX3.out.setCell (p := ⟨w.heap.size + 1, 2, none⟩) (by simp) _⟩, by simp [intOf]; omega⟩
      · go_wp2
        have hf := HX.out.2.1.set 3 (.int .u64 (orW cc.d (bitW (x % 64))))
        rw [← HCC.out, Cl.set_cells cc x hc0 hc1 3 (by omega) _ rfl, HE.out] at hf
        exact ⟨⟨n + 1, by omega, by go_num, HX.out.1.far (p := ⟨w.heap.size + 1, 3, none⟩) (by simp) _, hf, HX3.out.setCell (p := ⟨w.heap.size + 1, 3, none⟩) (by simp) _⟩, by simp [intOf]; omega⟩
    · have he : Cl.of (bs.take n) = Cl.of bs := by rw [List.take_of_length_le (by omega)]
      rw [he] at hb1 HX
      have hcell1 := hb1.cells
      have hfro0 := hb0.frozens
      have hcell0 := hb0.cells
      clear hb0 hb1 hb he
      obtain ⟨cc, hcc⟩ : ∃ cc, cc = Cl.of bs := ⟨_, rfl⟩
      rw [← hcc] at hcell1 HX
      have HCC := Lib.hid hcc
      clear hcc
      simp only [Cl.cells, Cl.zero] at hcell1 hcell0
      go_wp2
      have kk := Bk.putN HX.out.1 [.int .u64 cc.a, .int .u64 cc.b, .int .u64 cc.c, .int .u64 cc.d]
      have kc := kk.cells
      simp [setN] at kc
      refine bodyPost_ret (v := cc.v) (by simp [results, Try.results61, go_sem, kc, Cl.v]) rfl ⟨by rw [HCC.out], ?_⟩
      exact below_setN [_, _, _, _] HX.out.2.2 0 (Nat.le_refl _)
end Go.Proofs.Ytkfjnllbjlndlaa
