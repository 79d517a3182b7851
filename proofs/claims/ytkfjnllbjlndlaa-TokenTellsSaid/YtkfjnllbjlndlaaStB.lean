/- Two tokens of a call's own beside the lexer; a class stored into one. -/
import Derived.Test.YtkfjnllbjlndlaaStP
import Derived.Test.YtkfjnllbjlndlaaClsQ
namespace Go.Proofs.Ytkfjnllbjlndlaa
open Go.RowKit

section
variable {w W W' : World} {g B c k k' zt zl zh z : Nat} {A : Option Addr} {p : List UInt8} {cs : Array Value} {t lo hi : Tok}
theorem cls_cells (t : Tok) (cl : Cl) : putN t.cells 2 cl.list = ({ t with cls := cl } : Tok).cells := by simp [putN, Tok.cells, Cl.list]
theorem Fr.setNfar (h : Fr w W g B A c p k cs) (hz : w.heap.size < z) (vs : List Value) (i : Nat) : Fr w (setN W z i vs) g B A c p k cs := by
  have hB : B ≤ w.heap.size := by have := h.l.le; have := h.ne; omega
  have hb : Below w.heap.size W (setN W z i vs) := below_setN _ (Below.refl _ _) i (by omega)
  exact ⟨⟨h.l.x.farN _ i (by have := h.ne; omega), Reads.below h.l.r (hb.mono hB), h.l.le, h.l.small, h.l.at_⟩, h.z.farN _ i (by omega), h.o.setN _ i (.inr (by omega)), h.ne⟩
theorem Ft.setNfar (h : Ft w W g B A c p k cs zt t) (hz : zt < z) (vs : List Value) (i : Nat) : Ft w (setN W z i vs) g B A c p k cs zt t :=
  ⟨h.f.setNfar (by have := h.lt; omega) vs i, h.b.farN _ i (by omega), h.lt⟩
theorem Ft.cls (h : Ft w W g B A c p k cs zt t) (cl : Cl) : Ft w (setN W zt 2 cl.list) g B A c p k cs zt { t with cls := cl } :=
  ⟨h.f.setNfar h.lt _ _, cls_cells t cl ▸ h.b.setN_ cl.list 2, h.lt⟩
theorem Ft.alloc (h : Ft w W g B A c p k cs zt t) (o : Obj) : Ft w (W.alloc o) g B A c p k cs zt t := ⟨h.f.alloc o, h.b.alloc o, h.lt⟩

structure Fu (w W : World) (g B : Nat) (A : Option Addr) (c : Nat) (p : List UInt8) (k : Nat) (cs : Array Value) (zt : Nat) (t : Tok) (zl : Nat) (lo : Tok) : Prop where
  f : Ft w W g B A c p k cs zt t
  b : Bk W zl 49 lo.cells
  lt : zt < zl
theorem Fu.new (h : Ft w W g B A c p k cs zt t) (lo : Tok) : Fu w (W.alloc (.cells lo.cells 49)) g B A c p k cs zt t W.heap.size lo := ⟨h.alloc _, Bk.new W _ _, h.b.lt⟩
theorem Fu.drewN (h : Fu w W g B A c p k cs zt t zl lo) (n : Nat) : Fu w (W.drewN n) g B A c p k cs zt t zl lo := ⟨h.f.drewN n, h.b.drewN n, h.lt⟩
theorem Fu.drew (h : Fu w W g B A c p k cs zt t zl lo) : Fu w W.drew g B A c p k cs zt t zl lo := ⟨h.f.drew, h.b.drew, h.lt⟩
theorem Fu.alloc (h : Fu w W g B A c p k cs zt t zl lo) (o : Obj) : Fu w (W.alloc o) g B A c p k cs zt t zl lo := ⟨h.f.alloc o, h.b.alloc o, h.lt⟩
theorem Fu.kept (h : Fu w W g B A c p k cs zt t zl lo) (hb : Below W.heap.size W W') : Fu w W' g B A c p k cs zt t zl lo := ⟨h.f.kept hb, h.b.kept hb, h.lt⟩
theorem Fu.only (h : Fu w W g B A c p k cs zt t zl lo) (ho : Only g W W') (hl : Lx W' g B A c p k') : Fu w W' g B A c p k' cs zt t zl lo :=
  ⟨h.f.only ho hl, h.b.grown ho (by intro e; injection e with e; have := h.f.f.ne; have := h.f.lt; have := h.lt; omega), h.lt⟩
theorem Fu.step (h : Fu w W g B A c p k cs zt t zl lo) (k' : Nat) (hk : k' ≤ p.length) : Fu w (W.setCell ⟨g, 1, none⟩ (.int .i64 k')) g B A c p k' cs zt t zl lo :=
  h.only (h.f.f.l.step k' hk).2 (h.f.f.l.step k' hk).1
theorem Fu.setNfar (h : Fu w W g B A c p k cs zt t zl lo) (hz : zl < z) (vs : List Value) (i : Nat) : Fu w (setN W z i vs) g B A c p k cs zt t zl lo :=
  ⟨h.f.setNfar (by have := h.lt; omega) vs i, h.b.farN _ i (by omega), h.lt⟩
theorem Fu.lcls (h : Fu w W g B A c p k cs zt t zl lo) (cl : Cl) : Fu w (setN W zl 2 cl.list) g B A c p k cs zt t zl { lo with cls := cl } :=
  ⟨h.f.setNfar h.lt _ _, cls_cells lo cl ▸ h.b.setN_ cl.list 2, h.lt⟩
theorem Fu.tcls (h : Fu w W g B A c p k cs zt t zl lo) (cl : Cl) : Fu w (setN W zt 2 cl.list) g B A c p k cs zt { t with cls := cl } zl lo :=
  ⟨h.f.cls cl, h.b.farN _ 2 (by have := h.lt; omega), h.lt⟩

structure Fv (w W : World) (g B : Nat) (A : Option Addr) (c : Nat) (p : List UInt8) (k : Nat) (cs : Array Value) (zt : Nat) (t : Tok) (zl : Nat) (lo : Tok) (zh : Nat) (hi : Tok) : Prop where
  f : Fu w W g B A c p k cs zt t zl lo
  b : Bk W zh 49 hi.cells
  lt : zl < zh
theorem Fv.new (h : Fu w W g B A c p k cs zt t zl lo) (hi : Tok) : Fv w (W.alloc (.cells hi.cells 49)) g B A c p k cs zt t zl lo W.heap.size hi := ⟨h.alloc _, Bk.new W _ _, h.b.lt⟩
theorem Fv.drewN (h : Fv w W g B A c p k cs zt t zl lo zh hi) (n : Nat) : Fv w (W.drewN n) g B A c p k cs zt t zl lo zh hi := ⟨h.f.drewN n, h.b.drewN n, h.lt⟩
theorem Fv.drew (h : Fv w W g B A c p k cs zt t zl lo zh hi) : Fv w W.drew g B A c p k cs zt t zl lo zh hi := ⟨h.f.drew, h.b.drew, h.lt⟩
theorem Fv.kept (h : Fv w W g B A c p k cs zt t zl lo zh hi) (hb : Below W.heap.size W W') : Fv w W' g B A c p k cs zt t zl lo zh hi := ⟨h.f.kept hb, h.b.kept hb, h.lt⟩
theorem Fv.alloc (h : Fv w W g B A c p k cs zt t zl lo zh hi) (o : Obj) : Fv w (W.alloc o) g B A c p k cs zt t zl lo zh hi := ⟨h.f.alloc o, h.b.alloc o, h.lt⟩
end
end Go.Proofs.Ytkfjnllbjlndlaa
