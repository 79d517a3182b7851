/- What class.Not, Union and riddleref02's compute. -/
import Derived.Test.YtkfjnllbjlndlaaCls
namespace Go.Proofs.Ytkfjnllbjlndlaa
open Go.RowKit

def notW (a : Int) : Int := bits .xor .u64 IntKind.u64.max a
def Cl.not (c : Cl) : Cl := ⟨notW c.a, notW c.b, notW c.c, notW c.d⟩
def Cl.or (c e : Cl) : Cl := ⟨orW c.a e.a, orW c.b e.b, orW c.c e.c, orW c.d e.d⟩
def Cl.union (l : List Cl) : Cl := l.foldl Cl.or Cl.zero
def Cl.list (c : Cl) : List Value := [.int .u64 c.a, .int .u64 c.b, .int .u64 c.c, .int .u64 c.d]

set_option maxHeartbeats 1000000 in
theorem not_cls (c : Cl) (w : World) : Calls Try.prog 57 #[c.v] w fun e w' => e = .returned c.not.v ∧ Below w.heap.size w w' := by
  show Calls Try.prog 57 #[.agg #[_, _, _, _]] w _
  go_enter Try.func57, Try.ntmps57
  go_wp2
  go_rounds 5
  go_returns
  exact ⟨rfl, ((Below.refl _ _).alloc (Nat.le_refl _) _).alloc (by simp) _⟩

set_option maxHeartbeats 1000000 in
theorem refNot_cls (c : Cl) (w : World) : Calls Try.prog 76 #[c.v] w fun e w' => e = .returned c.not.v ∧ Below w.heap.size w w' := by
  show Calls Try.prog 76 #[.agg #[_, _, _, _]] w _
  go_enter Try.func76, Try.ntmps76
  go_wp2
  go_rounds 5
  go_returns
  exact ⟨rfl, ((Below.refl _ _).alloc (Nat.le_refl _) _).alloc (by simp) _⟩

theorem flat_get (l : List Cl) (n : Nat) (hn : n < l.length) (j : Nat) (hj : j < 4) : (l.flatMap Cl.list)[n * 4 + j]? = (l[n]).list[j]? := by
  induction l generalizing n with
  | nil => simp at hn
  | cons c cs ih =>
    rw [List.flatMap_cons]
    cases n with
    | zero =>
      rw [List.getElem?_append_left (by simp [Cl.list]; omega)]
      simp
    | succ n =>
      rw [List.getElem?_append_right (by simp [Cl.list]; omega)]
      have : (n + 1) * 4 + j - c.list.length = n * 4 + j := by simp [Cl.list]; omega
      rw [this, ih n (by simpa using hn)]
      simp

set_option maxRecDepth 100000 in
set_option maxHeartbeats 4000000 in
theorem union_cls (w : World) (g : Nat) (cap : Nat) (l : List Cl) (h : Bk w g 47 (l.flatMap Cl.list).toArray) (hl : l.length ≤ 1000000) :
    Calls Try.prog 62 #[.slice (some ⟨g, 0, none⟩) l.length cap] w fun e w' => e = .returned (Cl.union l).v ∧ Below w.heap.size w w' := by
  have H := Lib.hid h
  clear h
  go_enter Try.func62, Try.ntmps62
  go_wp2
  go_loopw [10] (fun k wr => ∃ (n : Nat), n ≤ l.length ∧ k = .int .i64 n ∧ Bk wr w.heap.size 47 Cl.zero.cells ∧ Bk wr (w.heap.size + 1) 47 (Cl.union (l.take n)).cells ∧ Below w.heap.size w wr) (fun k _ => l.length - (intOf k).toNat)
  case atStart => exact ⟨0, by omega, rfl, (Bk.new _ _ _).alloc _, Bk.at_new _ _ _ _ (by simp), ((Below.refl _ _).alloc (Nat.le_refl _) _).alloc (by simp) _⟩
  case round =>
    obtain ⟨n, hk, rfl, hb0, hb1, hb⟩ := hrel
    have HX := Lib.hid (And.intro hb0 (And.intro hb1 hb))
    have hsrc := (H.out.below hb H.out.lt).cells
    have hcell1 := fun o => (hb1.alloc o).cells
    have hfro0 := hb0.frozens
    have hfro1 := fun o => (hb1.alloc o).frozens
    have hcell0 := hb0.cells
    have hcellN := hb1.cells
    clear hb0 hb1 hb
    by_cases hlt : n < l.length
    · have s0 : wr.cell? ⟨g, n * 4, none⟩ = some (.int .u64 (l[n]).a) := (hsrc (n * 4)).trans (by rw [List.getElem?_toArray]; exact flat_get l n hlt 0 (by omega))
      have s1 : wr.cell? ⟨g, n * 4 + 1, none⟩ = some (.int .u64 (l[n]).b) := (hsrc (n * 4 + 1)).trans (by rw [List.getElem?_toArray]; exact flat_get l n hlt 1 (by omega))
      have s2 : wr.cell? ⟨g, n * 4 + 2, none⟩ = some (.int .u64 (l[n]).c) := (hsrc (n * 4 + 2)).trans (by rw [List.getElem?_toArray]; exact flat_get l n hlt 2 (by omega))
      have s3 : wr.cell? ⟨g, n * 4 + 3, none⟩ = some (.int .u64 (l[n]).d) := (hsrc (n * 4 + 3)).trans (by rw [List.getElem?_toArray]; exact flat_get l n hlt 3 (by omega))
      have ho : Cl.union (l.take (n + 1)) = (Cl.union (l.take n)).or l[n] := by unfold Cl.union; rw [List.take_succ_eq_append_getElem hlt, List.foldl_append]; rfl
      have HO := Lib.hid ho
      clear ho hsrc hcellN
      generalize l[n] = cn at *
      obtain ⟨cc, hcc⟩ : ∃ cc, cc = Cl.union (l.take n) := ⟨_, rfl⟩
      rw [← hcc] at hcell1
      have HCC := Lib.hid hcc
      clear hcc
      simp only [Cl.cells, Cl.zero] at hcell1 hcell0
      have i0 : ∀ w, (Instr.index 47 (.agg #[.int .u64 cn.a, .int .u64 cn.b, .int .u64 cn.c, .int .u64 cn.d]) (.int .i64 0)).run Try.prog w = .ok (.int .u64 cn.a) w := fun _ => by kernel_rfl
      have i1 : ∀ w, (Instr.index 47 (.agg #[.int .u64 cn.a, .int .u64 cn.b, .int .u64 cn.c, .int .u64 cn.d]) (.int .i64 1)).run Try.prog w = .ok (.int .u64 cn.b) w := fun _ => by kernel_rfl
      have i2 : ∀ w, (Instr.index 47 (.agg #[.int .u64 cn.a, .int .u64 cn.b, .int .u64 cn.c, .int .u64 cn.d]) (.int .i64 2)).run Try.prog w = .ok (.int .u64 cn.c) w := fun _ => by kernel_rfl
      have i3 : ∀ w, (Instr.index 47 (.agg #[.int .u64 cn.a, .int .u64 cn.b, .int .u64 cn.c, .int .u64 cn.d]) (.int .i64 3)).run Try.prog w = .ok (.int .u64 cn.d) w := fun _ => by kernel_rfl
      have HX3 := Lib.hid HX.out.2.2
      go_wp2
      go_rounds 5
      have HE := Lib.hid (show cc.or cn = Cl.union (l.take (n + 1)) by rw [HO.out, HCC.out])
      have h2 := fun o => Bk.putN (HX.out.2.1.alloc o) [.int .u64 (cc.or cn).a, .int .u64 (cc.or cn).b, .int .u64 (cc.or cn).c, .int .u64 (cc.or cn).d]
      have h3 := fun o => Bk.farN (g' := w.heap.size + 1) [.int .u64 (cc.or cn).a, .int .u64 (cc.or cn).b, .int .u64 (cc.or cn).c, .int .u64 (cc.or cn).d] (HX.out.1.alloc o) 0 (by omega)
      have h4 := fun o => below_setN (g := w.heap.size + 1) [.int .u64 (cc.or cn).a, .int .u64 (cc.or cn).b, .int .u64 (cc.or cn).c, .int .u64 (cc.or cn).d] (HX3.out.alloc HX3.out.size o) 0 (by omega)
      simp only [setN, Nat.reduceAdd, Cl.or, orW] at h2 h3 h4
      have hE : (#[.int .u64 (bits .or .u64 cc.a cn.a), .int .u64 (bits .or .u64 cc.b cn.b), .int .u64 (bits .or .u64 cc.c cn.c), .int .u64 (bits .or .u64 cc.d cn.d)] : Array Value) = (Cl.union (l.take (n + 1))).cells := by rw [← HE.out]; rfl
      rw [hE] at h2
      exact ⟨⟨n + 1, by omega, by go_num, h3 _, h2 _, h4 _⟩, by simp [intOf]; omega⟩
    · have he : Cl.union (l.take n) = Cl.union l := by rw [List.take_of_length_le (by omega)]
      rw [he] at HX hcellN
      obtain ⟨cc, hcc⟩ : ∃ cc, cc = Cl.union l := ⟨_, rfl⟩
      rw [← hcc] at hcellN HX
      have HCC := Lib.hid hcc
      clear hcc he hcell1 hsrc
      simp only [Cl.cells, Cl.zero] at hcellN hcell0
      go_wp2
      have kk := Bk.putN HX.out.1 [.int .u64 cc.a, .int .u64 cc.b, .int .u64 cc.c, .int .u64 cc.d]
      have kc := kk.cells
      simp [setN] at kc
      refine bodyPost_ret (v := cc.v) (by simp [results, Try.results62, go_sem, kc, Cl.v]) rfl ⟨by rw [HCC.out], ?_⟩
      exact below_setN [_, _, _, _] HX.out.2.2 0 (Nat.le_refl _)

end Go.Proofs.Ytkfjnllbjlndlaa
