/- The lexer's one: a token. -/
import Derived.Test.YtkfjnllbjlndlaaStB
import Derived.Test.YtkfjnllbjlndlaaShut
namespace Go.Proofs.Ytkfjnllbjlndlaa
open Go.RowKit

def OneRes (w' : World) (g B : Nat) (A : Option Addr) (c : Nat) (p : List UInt8) (r : Rd Tok) (e : Ending) : Prop :=
  match r with
  | .ok t k' => e = .returned (.tuple #[t.v, .int .i64 0, .int .i64 0]) ∧ Lx w' g B A c p k'
  | .bad a er => ∃ (t : Tok) (k' : Nat), e = .returned (.tuple #[t.v, .int .i64 a, .int .i64 er]) ∧ Lx w' g B A c p k' ∧ er ≠ 0
theorem oneM_at (p : List UInt8) (k : Nat) (x : Int) (hx : byteAt p k = x) : oneM p k = (if x = 92 then match escM p (k + 1) with | none => .bad k 40 | some (t, k1) => .ok { t with at_ := k } k1
  else if x = 91 then
    let n := decide (byteAt p (k + 1) = 94)
    match setM p k n (p.length + 1) (if n then k + 2 else k + 1) true Cl.zero with
    | .bad a e => .bad a e
    | .ok c k1 => .ok { Tok.zero with kind := 2, cls := c, not_ := n, at_ := k } k1
  else if x = 46 then .ok { Tok.zero with kind := 3, at_ := k } (k + 1)
  else if x = 40 then
    if byteAt p (k + 1) = 63 then (if byteAt p (k + 2) = 58 then .ok { Tok.zero with kind := 4, at_ := k } (k + 3) else .bad k 44)
    else .ok { Tok.zero with kind := 4, at_ := k } (k + 1)
  else if x = 41 then .ok { Tok.zero with kind := 5, at_ := k } (k + 1)
  else if x = 124 then .ok { Tok.zero with kind := 6, at_ := k } (k + 1)
  else if x = 94 then .ok { Tok.zero with kind := 8, at_ := k } (k + 1)
  else if x = 36 then .ok { Tok.zero with kind := 9, at_ := k } (k + 1)
  else if x = 43 then lazyM p k { Tok.zero with kind := 7, least := 1, most := -1 } (k + 1)
  else if x = 42 then lazyM p k { Tok.zero with kind := 7, least := 0, most := -1 } (k + 1)
  else if x = 63 then lazyM p k { Tok.zero with kind := 7, least := 0, most := 1 } (k + 1)
  else if x = 123 then match cntM p (k + 1) with | none => .bad k 43 | some (t, k1) => lazyM p k t k1
  else .ok { Tok.ofByte x with at_ := k } (k + 1)) := by subst hx; rfl
section
variable {w W W' : World} {g B c k k' z zt : Nat} {A : Option Addr} {p : List UInt8} {cs : Array Value} {t : Tok}
theorem Ft.one (h : Lx w g B A c p k) (k' : Nat) (hk : k' ≤ p.length) (t : Tok) (n : Nat) :
    Ft w ((((w.alloc (.cells Tok.zero.cells 49)).drewN n).setCell ⟨g, 1, none⟩ (.int .i64 k')).alloc (.cells t.cells 49)) g B A c p k' Tok.zero.cells (w.heap.size + 1) t := by
  have h1 := Ft.new (((Fr.new h Tok.zero.cells).drewN n).step k' hk) t
  have h2 : (((w.alloc (.cells Tok.zero.cells 49)).drewN n).setCell ⟨g, 1, none⟩ (.int .i64 k')).heap.size = w.heap.size + 1 := by
    rw [show (((w.alloc (.cells Tok.zero.cells 49)).drewN n).setCell ⟨g, 1, none⟩ (.int .i64 k')).heap.size = (setN ((w.alloc (.cells Tok.zero.cells 49)).drewN n) g 1 [.int .i64 k']).heap.size from rfl, size_setN]
    exact World.size_alloc _ _
  rw [h2] at h1
  exact h1
theorem Ft.put (h : Ft w W g B A c p k cs zt t) (t' : Tok) : Ft w (setN W zt 0 t'.list) g B A c p k cs zt t' := ⟨h.f.setNfar h.lt _ _, h.b.putN t'.list, h.lt⟩
end
theorem set_at (t : Tok) (n : Int) : t.cells.setIfInBounds 10 (.int .i64 n) = ({ t with at_ := n } : Tok).cells := by simp [Tok.cells]
theorem set_lazy (t : Tok) (b : Bool) : t.cells.setIfInBounds 9 (.bool b) = ({ t with lazy := b } : Tok).cells := by simp [Tok.cells]

set_option maxRecDepth 100000 in
set_option maxHeartbeats 4000000 in
theorem one_46 (w : World) (g B : Nat) (A : Option Addr) (c : Nat) (p : List UInt8) (k : Nat) (h : Lx w g B A c p k) (x : Int) (hx : ∃ h : k < p.length, (p[k].toNat : Int) = x) (hc : x = 46) :
    Calls Try.prog 34 #[.pointer (some ⟨g, 0, none⟩)] w fun e w' => OneRes w' g B A c p (oneM p k) e ∧ Only g w w' := by
  have H := Lib.hid h
  have hs := h.small
  have hk := h.at_
  have hne := h.x.lt
  have hk' : k < p.length := hx.1
  obtain ⟨hx0, hx1⟩ : 0 ≤ x ∧ x ≤ 255 := by obtain ⟨h1, h2⟩ := hx; have := (p[k]).toNat_lt; omega
  obtain ⟨ad, rfl⟩ : ∃ ad, A = some ad := by obtain ⟨ad, e, _⟩ := h.r.at_ hk'; exact ⟨ad, e⟩
  have hX := Lib.hid (show byteAt p k = x by obtain ⟨h1, h2⟩ := hx; rw [byteAt_lt p k h1, h2])
  obtain ⟨k1, hk1⟩ : ∃ k1, k1 = k + 1 := ⟨_, rfl⟩
  have hw1 : IntKind.i64.wrap ((k : Int) + 1) = (k1 : Int) := by rw [wrap_id _ (by omega) (by omega)]; omega
  have HK := Lib.hid hk1
  have hb0 := fun o => (h.alloc o).r.cell_ hx
  have hc1 := fun o => (h.alloc o).x.cells
  have hf1 := fun o => (h.alloc o).x.frozens
  have FF := Lib.hid (Fr.new h Tok.zero.cells)
  clear hk1 h hx
  subst hc
  go_enter Try.func34, Try.ntmps34
  refine shut_post fun E0 HQ => ?_
  go_wp2
  go_quiet (fail)
  go_wp2
  have FE := fun n o => (((FF.out.drewN n).step k1 (by have := HK.out; omega)).fin (t := { Tok.zero with kind := 3, at_ := k })).alloc o
  simp only [setN, Tok.list, Tok.cells, Tok.zero, Cl.zero, Nat.reduceAdd] at FE
  refine HQ.out _ _ ?_
  refine tok_end3 (t := { Tok.zero with kind := 3, at_ := k }) rfl (FE _ _).z rfl rfl rfl ⟨?_, (FE _ _).o⟩
  rw [show oneM p k = .ok { Tok.zero with kind := 3, at_ := k } (k + 1) from by rw [oneM_at p k 46 hX.out]; rfl]
  exact ⟨rfl, HK.out ▸ (FE _ _).l⟩

set_option maxRecDepth 100000 in
set_option maxHeartbeats 4000000 in
theorem one_41 (w : World) (g B : Nat) (A : Option Addr) (c : Nat) (p : List UInt8) (k : Nat) (h : Lx w g B A c p k) (x : Int) (hx : ∃ h : k < p.length, (p[k].toNat : Int) = x) (hc : x = 41) :
    Calls Try.prog 34 #[.pointer (some ⟨g, 0, none⟩)] w fun e w' => OneRes w' g B A c p (oneM p k) e ∧ Only g w w' := by
  have H := Lib.hid h
  have hs := h.small
  have hk := h.at_
  have hne := h.x.lt
  have hk' : k < p.length := hx.1
  obtain ⟨hx0, hx1⟩ : 0 ≤ x ∧ x ≤ 255 := by obtain ⟨h1, h2⟩ := hx; have := (p[k]).toNat_lt; omega
  obtain ⟨ad, rfl⟩ : ∃ ad, A = some ad := by obtain ⟨ad, e, _⟩ := h.r.at_ hk'; exact ⟨ad, e⟩
  have hX := Lib.hid (show byteAt p k = x by obtain ⟨h1, h2⟩ := hx; rw [byteAt_lt p k h1, h2])
  obtain ⟨k1, hk1⟩ : ∃ k1, k1 = k + 1 := ⟨_, rfl⟩
  have hw1 : IntKind.i64.wrap ((k : Int) + 1) = (k1 : Int) := by rw [wrap_id _ (by omega) (by omega)]; omega
  have HK := Lib.hid hk1
  have hb0 := fun o => (h.alloc o).r.cell_ hx
  have hc1 := fun o => (h.alloc o).x.cells
  have hf1 := fun o => (h.alloc o).x.frozens
  have FF := Lib.hid (Fr.new h Tok.zero.cells)
  clear hk1 h hx
  subst hc
  go_enter Try.func34, Try.ntmps34
  refine shut_post fun E0 HQ => ?_
  go_wp2
  go_quiet (fail)
  go_wp2
  have FE := fun n o => (((FF.out.drewN n).step k1 (by have := HK.out; omega)).fin (t := { Tok.zero with kind := 5, at_ := k })).alloc o
  simp only [setN, Tok.list, Tok.cells, Tok.zero, Cl.zero, Nat.reduceAdd] at FE
  refine HQ.out _ _ ?_
  refine tok_end3 (t := { Tok.zero with kind := 5, at_ := k }) rfl (FE _ _).z rfl rfl rfl ⟨?_, (FE _ _).o⟩
  rw [show oneM p k = .ok { Tok.zero with kind := 5, at_ := k } (k + 1) from by rw [oneM_at p k 41 hX.out]; rfl]
  exact ⟨rfl, HK.out ▸ (FE _ _).l⟩

set_option maxRecDepth 100000 in
set_option maxHeartbeats 4000000 in
theorem one_124 (w : World) (g B : Nat) (A : Option Addr) (c : Nat) (p : List UInt8) (k : Nat) (h : Lx w g B A c p k) (x : Int) (hx : ∃ h : k < p.length, (p[k].toNat : Int) = x) (hc : x = 124) :
    Calls Try.prog 34 #[.pointer (some ⟨g, 0, none⟩)] w fun e w' => OneRes w' g B A c p (oneM p k) e ∧ Only g w w' := by
  have H := Lib.hid h
  have hs := h.small
  have hk := h.at_
  have hne := h.x.lt
  have hk' : k < p.length := hx.1
  obtain ⟨hx0, hx1⟩ : 0 ≤ x ∧ x ≤ 255 := by obtain ⟨h1, h2⟩ := hx; have := (p[k]).toNat_lt; omega
  obtain ⟨ad, rfl⟩ : ∃ ad, A = some ad := by obtain ⟨ad, e, _⟩ := h.r.at_ hk'; exact ⟨ad, e⟩
  have hX := Lib.hid (show byteAt p k = x by obtain ⟨h1, h2⟩ := hx; rw [byteAt_lt p k h1, h2])
  obtain ⟨k1, hk1⟩ : ∃ k1, k1 = k + 1 := ⟨_, rfl⟩
  have hw1 : IntKind.i64.wrap ((k : Int) + 1) = (k1 : Int) := by rw [wrap_id _ (by omega) (by omega)]; omega
  have HK := Lib.hid hk1
  have hb0 := fun o => (h.alloc o).r.cell_ hx
  have hc1 := fun o => (h.alloc o).x.cells
  have hf1 := fun o => (h.alloc o).x.frozens
  have FF := Lib.hid (Fr.new h Tok.zero.cells)
  clear hk1 h hx
  subst hc
  go_enter Try.func34, Try.ntmps34
  refine shut_post fun E0 HQ => ?_
  go_wp2
  go_quiet (fail)
  go_wp2
  have FE := fun n o => (((FF.out.drewN n).step k1 (by have := HK.out; omega)).fin (t := { Tok.zero with kind := 6, at_ := k })).alloc o
  simp only [setN, Tok.list, Tok.cells, Tok.zero, Cl.zero, Nat.reduceAdd] at FE
  refine HQ.out _ _ ?_
  refine tok_end3 (t := { Tok.zero with kind := 6, at_ := k }) rfl (FE _ _).z rfl rfl rfl ⟨?_, (FE _ _).o⟩
  rw [show oneM p k = .ok { Tok.zero with kind := 6, at_ := k } (k + 1) from by rw [oneM_at p k 124 hX.out]; rfl]
  exact ⟨rfl, HK.out ▸ (FE _ _).l⟩

set_option maxRecDepth 100000 in
set_option maxHeartbeats 4000000 in
theorem one_94 (w : World) (g B : Nat) (A : Option Addr) (c : Nat) (p : List UInt8) (k : Nat) (h : Lx w g B A c p k) (x : Int) (hx : ∃ h : k < p.length, (p[k].toNat : Int) = x) (hc : x = 94) :
    Calls Try.prog 34 #[.pointer (some ⟨g, 0, none⟩)] w fun e w' => OneRes w' g B A c p (oneM p k) e ∧ Only g w w' := by
  have H := Lib.hid h
  have hs := h.small
  have hk := h.at_
  have hne := h.x.lt
  have hk' : k < p.length := hx.1
  obtain ⟨hx0, hx1⟩ : 0 ≤ x ∧ x ≤ 255 := by obtain ⟨h1, h2⟩ := hx; have := (p[k]).toNat_lt; omega
  obtain ⟨ad, rfl⟩ : ∃ ad, A = some ad := by obtain ⟨ad, e, _⟩ := h.r.at_ hk'; exact ⟨ad, e⟩
  have hX := Lib.hid (show byteAt p k = x by obtain ⟨h1, h2⟩ := hx; rw [byteAt_lt p k h1, h2])
  obtain ⟨k1, hk1⟩ : ∃ k1, k1 = k + 1 := ⟨_, rfl⟩
  have hw1 : IntKind.i64.wrap ((k : Int) + 1) = (k1 : Int) := by rw [wrap_id _ (by omega) (by omega)]; omega
  have HK := Lib.hid hk1
  have hb0 := fun o => (h.alloc o).r.cell_ hx
  have hc1 := fun o => (h.alloc o).x.cells
  have hf1 := fun o => (h.alloc o).x.frozens
  have FF := Lib.hid (Fr.new h Tok.zero.cells)
  clear hk1 h hx
  subst hc
  go_enter Try.func34, Try.ntmps34
  refine shut_post fun E0 HQ => ?_
  go_wp2
  go_quiet (fail)
  go_wp2
  have FE := fun n o => (((FF.out.drewN n).step k1 (by have := HK.out; omega)).fin (t := { Tok.zero with kind := 8, at_ := k })).alloc o
  simp only [setN, Tok.list, Tok.cells, Tok.zero, Cl.zero, Nat.reduceAdd] at FE
  refine HQ.out _ _ ?_
  refine tok_end3 (t := { Tok.zero with kind := 8, at_ := k }) rfl (FE _ _).z rfl rfl rfl ⟨?_, (FE _ _).o⟩
  rw [show oneM p k = .ok { Tok.zero with kind := 8, at_ := k } (k + 1) from by rw [oneM_at p k 94 hX.out]; rfl]
  exact ⟨rfl, HK.out ▸ (FE _ _).l⟩

set_option maxRecDepth 100000 in
set_option maxHeartbeats 4000000 in
theorem one_36 (w : World) (g B : Nat) (A : Option Addr) (c : Nat) (p : List UInt8) (k : Nat) (h : Lx w g B A c p k) (x : Int) (hx : ∃ h : k < p.length, (p[k].toNat : Int) = x) (hc : x = 36) :
    Calls Try.prog 34 #[.pointer (some ⟨g, 0, none⟩)] w fun e w' => OneRes w' g B A c p (oneM p k) e ∧ Only g w w' := by
  have H := Lib.hid h
  have hs := h.small
  have hk := h.at_
  have hne := h.x.lt
  have hk' : k < p.length := hx.1
  obtain ⟨hx0, hx1⟩ : 0 ≤ x ∧ x ≤ 255 := by obtain ⟨h1, h2⟩ := hx; have := (p[k]).toNat_lt; omega
  obtain ⟨ad, rfl⟩ : ∃ ad, A = some ad := by obtain ⟨ad, e, _⟩ := h.r.at_ hk'; exact ⟨ad, e⟩
  have hX := Lib.hid (show byteAt p k = x by obtain ⟨h1, h2⟩ := hx; rw [byteAt_lt p k h1, h2])
  obtain ⟨k1, hk1⟩ : ∃ k1, k1 = k + 1 := ⟨_, rfl⟩
  have hw1 : IntKind.i64.wrap ((k : Int) + 1) = (k1 : Int) := by rw [wrap_id _ (by omega) (by omega)]; omega
  have HK := Lib.hid hk1
  have hb0 := fun o => (h.alloc o).r.cell_ hx
  have hc1 := fun o => (h.alloc o).x.cells
  have hf1 := fun o => (h.alloc o).x.frozens
  have FF := Lib.hid (Fr.new h Tok.zero.cells)
  clear hk1 h hx
  subst hc
  go_enter Try.func34, Try.ntmps34
  refine shut_post fun E0 HQ => ?_
  go_wp2
  go_quiet (fail)
  go_wp2
  have FE := fun n o => (((FF.out.drewN n).step k1 (by have := HK.out; omega)).fin (t := { Tok.zero with kind := 9, at_ := k })).alloc o
  simp only [setN, Tok.list, Tok.cells, Tok.zero, Cl.zero, Nat.reduceAdd] at FE
  refine HQ.out _ _ ?_
  refine tok_end3 (t := { Tok.zero with kind := 9, at_ := k }) rfl (FE _ _).z rfl rfl rfl ⟨?_, (FE _ _).o⟩
  rw [show oneM p k = .ok { Tok.zero with kind := 9, at_ := k } (k + 1) from by rw [oneM_at p k 36 hX.out]; rfl]
  exact ⟨rfl, HK.out ▸ (FE _ _).l⟩

end Go.Proofs.Ytkfjnllbjlndlaa
