/- The lexer's comes as one contract; count. -/
import Derived.Test.YtkfjnllbjlndlaaLxF
import Derived.Deep.RegionWith
namespace Go.Proofs.Ytkfjnllbjlndlaa
open Go.RowKit

theorem comes_any (w : World) (g B : Nat) (A : Option Addr) (c : Nat) (p : List UInt8) (k : Nat) (x : Int) (h : Lx w g B A c p k) (hx : 0 ≤ x) :
    Calls Try.prog 45 #[.pointer (some ⟨g, 0, none⟩), .int .u8 x] w fun e w' =>
      ∃ (b : Bool) (k' : Nat), e = .returned (.bool b) ∧ Lx w' g B A c p k' ∧ Only g w w' ∧ (b = true → byteAt p k = x ∧ k' = k + 1 ∧ k < p.length) ∧ (b = false → byteAt p k ≠ x ∧ k' = k) := by
  by_cases hb : byteAt p k = x
  · have hk : k < p.length := byteAt_pos p k (by omega)
    exact (comes_yes w g B A c p k x h ⟨hk, by rw [← byteAt_lt p k hk]; exact hb⟩).mono fun e w' ⟨h1, h2, h3⟩ => ⟨true, k + 1, h1, h2, h3, fun _ => ⟨hb, rfl, hk⟩, fun h => (by cases h)⟩
  · exact (comes_no w g B A c p k x h (fun hk => by rw [← byteAt_lt p k hk]; exact hb)).mono fun e w' ⟨h1, m, h2⟩ => ⟨false, k, h1, by rw [h2]; exact h.drewN m, by rw [h2]; exact (Only.refl g w).drewN m, fun h => (by cases h), fun _ => ⟨hb, rfl⟩⟩

/-- .. and a token of its own beside. -/
structure Ft (w W : World) (g B : Nat) (A : Option Addr) (c : Nat) (p : List UInt8) (k : Nat) (cs : Array Value) (z : Nat) (t : Tok) : Prop where
  f : Fr w W g B A c p k cs
  b : Bk W z 49 t.cells
  lt : w.heap.size < z
section
variable {w W W' : World} {g B c k k' z : Nat} {A : Option Addr} {p : List UInt8} {cs : Array Value} {t : Tok}
theorem Ft.new (h : Fr w W g B A c p k cs) (t : Tok) : Ft w (W.alloc (.cells t.cells 49)) g B A c p k cs W.heap.size t := ⟨h.alloc _, Bk.new W _ _, h.z.lt⟩
theorem Ft.new1 (h : Lx w g B A c p k) (t : Tok) : Ft w ((w.alloc (.cells Tok.zero.cells 49)).alloc (.cells t.cells 49)) g B A c p k Tok.zero.cells (w.heap.size + 1) t := by
  have h1 := Ft.new (Fr.new h Tok.zero.cells) t
  simpa only [World.size_alloc] using h1
theorem Ft.kept (h : Ft w W g B A c p k cs z t) (hb : Below W.heap.size W W') : Ft w W' g B A c p k cs z t := ⟨h.f.kept hb, h.b.kept hb, h.lt⟩
theorem Ft.only (h : Ft w W g B A c p k cs z t) (ho : Only g W W') (hl : Lx W' g B A c p k') : Ft w W' g B A c p k' cs z t :=
  ⟨h.f.only ho hl, h.b.grown ho (by intro e; injection e with e; have := h.f.ne; have := h.lt; omega), h.lt⟩
theorem Ft.drewN (h : Ft w W g B A c p k cs z t) (n : Nat) : Ft w (W.drewN n) g B A c p k cs z t := ⟨h.f.drewN n, h.b.drewN n, h.lt⟩
theorem Ft.drew (h : Ft w W g B A c p k cs z t) : Ft w W.drew g B A c p k cs z t := ⟨h.f.drew, h.b.drew, h.lt⟩
theorem Ft.set (h : Ft w W g B A c p k cs z t) (i : Nat) (v : Value) {t' : Tok} (ht : t.cells.setIfInBounds i v = t'.cells) : Ft w (W.setCell ⟨z, i, none⟩ v) g B A c p k cs z t' := by
  refine ⟨?_, ht ▸ h.b.set i v, h.lt⟩
  have hB : B ≤ w.heap.size := by have := h.f.l.le; have := h.f.ne; omega
  have hlt := h.lt
  have hb : Below w.heap.size W (W.setCell ⟨z, i, none⟩ v) := (Below.refl _ _).setCell (p := ⟨z, i, none⟩) (by simpa using (by omega : w.heap.size ≤ z)) _
  exact ⟨⟨h.f.l.x.far (p := ⟨z, i, none⟩) (by have := h.f.ne; simp; omega) _, Reads.below h.f.l.r (hb.mono hB), h.f.l.le, h.f.l.small, h.f.l.at_⟩, h.f.z.far (p := ⟨z, i, none⟩) (by simp; omega) _, h.f.o.set (p := ⟨z, i, none⟩) (.inr (by simp; omega)) _, h.f.ne⟩
end
theorem set_least (t : Tok) (n : Int) : t.cells.setIfInBounds 7 (.int .i64 n) = ({ t with least := n } : Tok).cells := by simp [Tok.cells]
theorem set_most (t : Tok) (n : Int) : t.cells.setIfInBounds 8 (.int .i64 n) = ({ t with most := n } : Tok).cells := by simp [Tok.cells]

set_option maxRecDepth 100000 in
set_option maxHeartbeats 400000 in
theorem count_any (w : World) (g B : Nat) (A : Option Addr) (c : Nat) (p : List UInt8) (k : Nat) (h : Lx w g B A c p k) :
    Calls Try.prog 46 #[.pointer (some ⟨g, 0, none⟩)] w fun e w' => TokRes w' g B A c p (cntM p k) e ∧ Only g w w' := by
  have H := Lib.hid h
  have FF := Lib.hid (Ft.new1 h { Tok.zero with kind := 7 })
  have hne := h.x.lt
  clear h
  go_enter Try.func46, Try.ntmps46
  go_wp2_with (first | (go_at_call 65; refine (number_any _ g B A c p k4 F4.out.f.l).mono ?_; rintro e w5 ⟨⟨n5, k5, b5, rfl, hl5, hn5, hn50, hn51⟩, ho⟩; have F5 := Lib.hid (F4.out.only ho hl5); have HN5 := Lib.hid hn5; clear ho hl5 hn5; have hz5_1 := F5.out.f.z.cells; simp only [Tok.cells, Tok.zero, Cl.zero] at hz5_1; have hz5_2 := F5.out.f.z.frozens; have hy5_1 := F5.out.b.cells; simp only [Tok.cells, Tok.zero, Cl.zero] at hy5_1; have hy5_2 := F5.out.b.frozens; have F6 := Lib.hid (F5.out.set 8 (.int .i64 n5) (set_most _ n5))) | (go_at_call 45; refine (comes_any _ g B A c p k3 125 F3.out.f.l (by decide)).mono ?_; rintro e w4 ⟨b4, k4, rfl, hl4, ho4, hy4⟩; have F4 := Lib.hid (F3.out.only ho4 hl4); have HY4 := Lib.hid hy4; clear hl4 ho4 hy4; have hz4_1 := F4.out.f.z.cells; simp only [Tok.cells, Tok.zero, Cl.zero] at hz4_1; have hz4_2 := F4.out.f.z.frozens; have hy4_1 := F4.out.b.cells; simp only [Tok.cells, Tok.zero, Cl.zero] at hy4_1; have hy4_2 := F4.out.b.frozens) | (go_at_call 45; refine (comes_any _ g B A c p k1 44 F2.out.f.l (by decide)).mono ?_; rintro e w3 ⟨b3, k3, rfl, hl3, ho3, hy3⟩; have F3 := Lib.hid (F2.out.only ho3 hl3); have HY3 := Lib.hid hy3; clear hl3 ho3 hy3; have hz3_1 := F3.out.f.z.cells; simp only [Tok.cells, Tok.zero, Cl.zero] at hz3_1; have hz3_2 := F3.out.f.z.frozens; have hy3_1 := F3.out.b.cells; simp only [Tok.cells, Tok.zero, Cl.zero] at hy3_1; have hy3_2 := F3.out.b.frozens) | (go_at_call 65; refine (number_any _ g B A c p k FF.out.f.l).mono ?_; rintro e w1 ⟨⟨n, k1, b, rfl, hl1, hn, hn0, hn1⟩, ho⟩; have F1 := Lib.hid (FF.out.only ho hl1); have HN := Lib.hid hn; clear ho hl1 hn; have hz1_1 := F1.out.f.z.cells; simp only [Tok.cells, Tok.zero, Cl.zero] at hz1_1; have hz1_2 := F1.out.f.z.frozens; have hy1_1 := F1.out.b.cells; simp only [Tok.cells, Tok.zero, Cl.zero] at hy1_1; have hy1_2 := F1.out.b.frozens; have hlt := F1.out.lt; have F2 := Lib.hid ((F1.out.set 7 (.int .i64 n) (set_least _ n)).set 8 (.int .i64 n) (set_most _ n))))
  · have FE := F1.out.f.fin (t := { Tok.zero with kind := 7 })
    simp only [setN, Tok.list, Tok.zero, Cl.zero, Nat.reduceAdd] at FE
    refine tok_end rfl FE.z rfl rfl ⟨?_, FE.o⟩
    refine TokRes.mk_ ?_ FE.l
    have hb : b = false := by simpa using (by assumption : (!b) = true)
    unfold cntM
    rw [HN.out, hb]
    rfl
  · have FE := (F4.out.set 8 (.int .i64 (-1)) (set_most _ (-1))).f.fin (t := { Tok.zero with kind := 7, least := n, most := -1 })
    simp only [setN, Tok.list, Tok.zero, Cl.zero, Nat.reduceAdd] at FE
    refine tok_end rfl FE.z rfl rfl ⟨?_, FE.o⟩
    refine TokRes.mk_ ?_ FE.l
    have hb : b = true := by simpa using (by assumption : (!b) = false)
    obtain ⟨e1, e2, _⟩ := HY3.out.1 (by assumption)
    obtain ⟨e3, e4, _⟩ := HY4.out.1 (by assumption)
    subst e2 e4
    unfold cntM
    rw [HN.out, hb]
    simp [e1, e3, Tok.zero, Cl.zero]
  · have FE := F6.out.f.fin (t := { Tok.zero with kind := 7, least := n, most := n5 })
    simp only [setN, Tok.list, Tok.zero, Cl.zero, Nat.reduceAdd] at FE
    refine tok_end rfl FE.z rfl rfl ⟨?_, FE.o⟩
    refine TokRes.mk_ ?_ FE.l
    have hb : b = true := by simpa using (by assumption : (!b) = false)
    obtain ⟨e1, e2, _⟩ := HY3.out.1 (by assumption)
    obtain ⟨e3, e4⟩ := HY4.out.2 (by assumption)
    have hb5 : b5 = true := by assumption
    have hlt5 : n5 < n := by assumption
    have hN5 := HN5.out
    subst e2 e4
    unfold cntM
    rw [HN.out, hb]
    simp [e1, e3, hN5, hb5, hlt5]
  · have FG := fun i => F6.out.drewN i
    go_region_with (go_at_call 45; refine (comes_any _ g B A c p k5 125 (FG _).f.l (by decide)).mono ?_; rintro e w7 ⟨b7, k7, rfl, hl7, ho7, hy7⟩; have F7 := Lib.hid ((FG _).only ho7 hl7); have HY7 := Lib.hid hy7; clear hl7 ho7 hy7; have hz7_1 := F7.out.f.z.cells; simp only [Tok.cells, Tok.zero, Cl.zero] at hz7_1; have hz7_2 := F7.out.f.z.frozens; have hy7_1 := F7.out.b.cells; simp only [Tok.cells, Tok.zero, Cl.zero] at hy7_1; have hy7_2 := F7.out.b.frozens)
    all_goals
      go_wp2
      have FE := F7.out.f.fin (t := { Tok.zero with kind := 7, least := n, most := n5 })
      simp only [setN, Tok.list, Tok.zero, Cl.zero, Nat.reduceAdd] at FE
      refine tok_end rfl FE.z rfl rfl ⟨?_, FE.o⟩
      refine TokRes.mk_ ?_ FE.l
      have hb : b = true := by simpa using (by assumption : (!b) = false)
      obtain ⟨e1, e2, _⟩ := HY3.out.1 (by assumption)
      obtain ⟨e3, e4⟩ := HY4.out.2 (by assumption)
      have hb5 : b5 = true := by assumption
      have hle5 : ¬ n5 < n := by omega
      have hN5 := HN5.out
      subst e2 e4
      unfold cntM
      rw [HN.out, hb]
      cases b7 with
      | true => obtain ⟨e5, e6, _⟩ := HY7.out.1 rfl; simp [e1, e3, hN5, hb5, hle5, e5, e6, Tok.zero, Cl.zero]
      | false => obtain ⟨e5, _⟩ := HY7.out.2 rfl; simp [e1, e3, hN5, hb5, hle5, e5]
  · have FE := F6.out.f.fin (t := { Tok.zero with kind := 7, least := n, most := n5 })
    simp only [setN, Tok.list, Tok.zero, Cl.zero, Nat.reduceAdd] at FE
    refine tok_end rfl FE.z rfl rfl ⟨?_, FE.o⟩
    refine TokRes.mk_ ?_ FE.l
    have hb : b = true := by simpa using (by assumption : (!b) = false)
    obtain ⟨e1, e2, _⟩ := HY3.out.1 (by assumption)
    obtain ⟨e3, e4⟩ := HY4.out.2 (by assumption)
    have hb5 : b5 = false := by simpa using (by assumption : ¬ b5 = true)
    have hN5 := HN5.out
    subst e2 e4
    unfold cntM
    rw [HN.out, hb]
    simp [e1, e3, hN5, hb5]
  · have FG := fun i => F3.out.drewN i
    go_region_with (go_at_call 45; refine (comes_any _ g B A c p k3 125 (FG _).f.l (by decide)).mono ?_; rintro e w7 ⟨b7, k7, rfl, hl7, ho7, hy7⟩; have F7 := Lib.hid ((FG _).only ho7 hl7); have HY7 := Lib.hid hy7; clear hl7 ho7 hy7; have hz7_1 := F7.out.f.z.cells; simp only [Tok.cells, Tok.zero, Cl.zero] at hz7_1; have hz7_2 := F7.out.f.z.frozens; have hy7_1 := F7.out.b.cells; simp only [Tok.cells, Tok.zero, Cl.zero] at hy7_1; have hy7_2 := F7.out.b.frozens)
    all_goals
      go_wp2
      have FE := F7.out.f.fin (t := { Tok.zero with kind := 7, least := n, most := n })
      simp only [setN, Tok.list, Tok.zero, Cl.zero, Nat.reduceAdd] at FE
      refine tok_end rfl FE.z rfl rfl ⟨?_, FE.o⟩
      refine TokRes.mk_ ?_ FE.l
      have hb : b = true := by simpa using (by assumption : (!b) = false)
      obtain ⟨e1, e2⟩ := HY3.out.2 (by assumption)
      subst e2
      unfold cntM
      rw [HN.out, hb]
      cases b7 with
      | true => obtain ⟨e5, e6, _⟩ := HY7.out.1 rfl; simp [e5, e6, Tok.zero, Cl.zero]
      | false => obtain ⟨e5, _⟩ := HY7.out.2 rfl; simp [e1, e5]
end Go.Proofs.Ytkfjnllbjlndlaa
