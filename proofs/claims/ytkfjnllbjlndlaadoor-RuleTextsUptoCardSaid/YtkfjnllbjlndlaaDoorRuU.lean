/- riddleref20.SameAll. -/
import Derived.Test.YtkfjnllbjlndlaaDoorRuW
import Derived.Test.YtkfjnllbjlndlaaDoorRuS
namespace Go.Proofs.YtkfjnllbjlndlaaDoor
open Go.RowKit

abbrev C7 (W : World) (a : Addr) (x : RV) : Prop := W.cell? a = some (.int .i64 x.1.id) ∧ W.cell? ⟨a.block, a.off + 1, none⟩ = some (.bool x.1.f.i) ∧ W.cell? ⟨a.block, a.off + 2, none⟩ = some (.bool x.1.f.s) ∧ W.cell? ⟨a.block, a.off + 3, none⟩ = some (.bool x.1.f.m) ∧ W.cell? ⟨a.block, a.off + 4, none⟩ = some (.bool x.1.f.o) ∧ W.cell? ⟨a.block, a.off + 5, none⟩ = some (.bool x.1.f.l) ∧ W.cell? ⟨a.block, a.off + 6, none⟩ = some (.slice x.2.1 x.1.p.length x.2.2)
theorem cell_on {W W' : World} {B : Nat} {a : Addr} {v : Value} (h : W.cell? a = some v) (hb : Below B W W') (ha : a.block < B) : W'.cell? a = some v := (hb.cell ha).trans h
theorem C7.below {W W' : World} {B : Nat} {a : Addr} {x : RV} (h : C7 W a x) (hb : Below B W W') (ha : a.block < B) : C7 W' a x :=
  ⟨cell_on h.1 hb ha, cell_on h.2.1 hb ha, cell_on h.2.2.1 hb ha, cell_on h.2.2.2.1 hb ha, cell_on h.2.2.2.2.1 hb ha, cell_on h.2.2.2.2.2.1 hb ha, cell_on h.2.2.2.2.2.2 hb ha⟩
/-- Both lists are told alike. -/
def sameL (l m : List Ru) : Bool := decide (l = m)
theorem take_eq {α : Type} {l m : List α} {k : Nat} {x y : α} (h : l.take k = m.take k) (hx : l[k]? = some x) (hy : m[k]? = some y) (e : x = y) : l.take (k + 1) = m.take (k + 1) := by
  rw [List.take_add_one, List.take_add_one, h, hx, hy, e]

set_option maxRecDepth 100000 in
set_option maxHeartbeats 4000000 in
theorem sameAll_any (w : World) (A1 A2 : Option Addr) (c1 c2 : Nat) (l m : List RV) (h1 : RdRs w w.heap.size A1 l) (h2 : RdRs w w.heap.size A2 m) (hlm : l.length ≤ 140737488351232) :
    Calls Tryd.prog 22 #[.slice A1 l.length c1, .slice A2 m.length c2] w fun e w' => e = .returned (.bool (decide (l.map (·.1) = m.map (·.1)))) ∧ Below w.heap.size w w' := by
  have H1 := Lib.hid h1
  have H2 := Lib.hid h2
  clear h1 h2
  by_cases hl : l.length = m.length
  · have HL := Lib.hid hl
    rw [← hl]
    clear hl
    go_enter Tryd.func22, Tryd.ntmps22
    go_wp2
    go_loopw [5] (fun q wr => ∃ k : Nat, q = .int .i64 k ∧ k ≤ l.length ∧ Below w.heap.size w wr ∧ (l.map (·.1)).take k = (m.map (·.1)).take k) (fun q _ => l.length - (intOf q).toNat)
    case atStart => exact ⟨0, rfl, Nat.zero_le _, Below.refl _ _, rfl⟩
    case round =>
      obtain ⟨k, rfl, hk, hB, hT⟩ := hrel
      have HB := Lib.hid hB
      have HT := Lib.hid hT
      clear hB hT
      by_cases hlt : k < l.length
      · obtain ⟨x, hx⟩ : ∃ x, l[k]? = some x := ⟨_, List.getElem?_eq_getElem hlt⟩
        obtain ⟨y, hy⟩ : ∃ y, m[k]? = some y := ⟨_, List.getElem?_eq_getElem (HL.out ▸ hlt)⟩
        obtain ⟨ad, rfl, hab, hc⟩ := (H1.out.below HB.out).at7 hx
        obtain ⟨ad2, rfl, hab2, hc2⟩ := (H2.out.below HB.out).at7 hy
        have hpx := (H1.out.pats x (List.mem_of_getElem? hx)).1
        have hpy := (H2.out.pats y (List.mem_of_getElem? hy)).1
        have HX := Lib.hid (And.intro hx hy)
        have HPX := Lib.hid (show ∀ W, Below w.heap.size w W → RdB W W.heap.size x.2.1 x.1.p from fun W hb => Reads.more (Reads.below hpx hb) hb.size)
        have HPY := Lib.hid (show ∀ W, Below w.heap.size w W → RdB W W.heap.size y.2.1 y.1.p from fun W hb => Reads.more (Reads.below hpy hb) hb.size)
        have HN := Lib.hid (show ∀ W W', Below W.heap.size W W' → Below w.heap.size w W → C7 W (ad.add (k * 7)) x → C7 W (ad2.add (k * 7)) y → Below w.heap.size w W' ∧ C7 W' (ad.add (k * 7)) x ∧ C7 W' (ad2.add (k * 7)) y from fun W W' h hb k1 k2 =>
          have h3 := h.mono hb.size
          ⟨below_then hb h hb.size, C7.below k1 h3 (by rw [block_of_add]; exact hab), C7.below k2 h3 (by rw [block_of_add]; exact hab2)⟩)
        clear hx hy hpx hpy
        obtain ⟨⟨id, f, p⟩, Ap, cp⟩ := x
        obtain ⟨⟨id', f', p'⟩, Ap', cp'⟩ := y
        simp only [C7] at hc hc2 HN
        obtain ⟨p0, p1, p2, p3, p4, p5, p6⟩ := hc
        obtain ⟨q0, q1, q2, q3, q4, q5, q6⟩ := hc2
        obtain ⟨r, hr⟩ : ∃ r, r = (⟨id, f, p⟩ : Ru).same ⟨id', f', p'⟩ := ⟨_, rfl⟩
        have HRR := Lib.hid hr
        clear hr
        go_wp2
        go_region_held3 (fun W => Below w.heap.size w W ∧ (W.cell? (ad.add (k * 7)) = some (.int .i64 id) ∧ W.cell? ⟨(ad.add (k * 7)).block, (ad.add (k * 7)).off + 1, none⟩ = some (.bool f.i) ∧ W.cell? ⟨(ad.add (k * 7)).block, (ad.add (k * 7)).off + 2, none⟩ = some (.bool f.s) ∧ W.cell? ⟨(ad.add (k * 7)).block, (ad.add (k * 7)).off + 3, none⟩ = some (.bool f.m) ∧ W.cell? ⟨(ad.add (k * 7)).block, (ad.add (k * 7)).off + 4, none⟩ = some (.bool f.o) ∧ W.cell? ⟨(ad.add (k * 7)).block, (ad.add (k * 7)).off + 5, none⟩ = some (.bool f.l) ∧ W.cell? ⟨(ad.add (k * 7)).block, (ad.add (k * 7)).off + 6, none⟩ = some (.slice Ap p.length cp)) ∧ (W.cell? (ad2.add (k * 7)) = some (.int .i64 id') ∧ W.cell? ⟨(ad2.add (k * 7)).block, (ad2.add (k * 7)).off + 1, none⟩ = some (.bool f'.i) ∧ W.cell? ⟨(ad2.add (k * 7)).block, (ad2.add (k * 7)).off + 2, none⟩ = some (.bool f'.s) ∧ W.cell? ⟨(ad2.add (k * 7)).block, (ad2.add (k * 7)).off + 3, none⟩ = some (.bool f'.m) ∧ W.cell? ⟨(ad2.add (k * 7)).block, (ad2.add (k * 7)).off + 4, none⟩ = some (.bool f'.o) ∧ W.cell? ⟨(ad2.add (k * 7)).block, (ad2.add (k * 7)).off + 5, none⟩ = some (.bool f'.l) ∧ W.cell? ⟨(ad2.add (k * 7)).block, (ad2.add (k * 7)).off + 6, none⟩ = some (.slice Ap' p'.length cp')))
          (first | exact HN.out _ _ ((Below.refl _ _).drew) HB.out ⟨p0, p1, p2, p3, p4, p5, p6⟩ ⟨q0, q1, q2, q3, q4, q5, q6⟩ | exact ⟨HB.out, ⟨p0, p1, p2, p3, p4, p5, p6⟩, q0, q1, q2, q3, q4, q5, q6⟩ | (go_split_ands; exact HN.out _ _ (by with_reducible assumption) (by with_reducible assumption) ⟨by with_reducible assumption, by with_reducible assumption, by with_reducible assumption, by with_reducible assumption, by with_reducible assumption, by with_reducible assumption, by with_reducible assumption⟩ ⟨by with_reducible assumption, by with_reducible assumption, by with_reducible assumption, by with_reducible assumption, by with_reducible assumption, by with_reducible assumption, by with_reducible assumption⟩))
          (first | (go_at_call 12; (with_reducible refine (rsame_lit _ ⟨id, f, p⟩ ⟨id', f', p'⟩ Ap Ap' cp cp' (HPX.out _ (And.left (by with_reducible assumption))) (HPY.out _ (And.left (by with_reducible assumption)))).mono ?_); rintro e w6 ⟨rfl, hb⟩; rw [← HRR.out]))
        have hbF : Below w.heap.size w w6 := And.left (by with_reducible assumption)
        have HBF := Lib.hid hbF
        clear hbF p0 p1 p2 p3 p4 p5 p6 q0 q1 q2 q3 q4 q5 q6
        cases r with
        | true =>
          go_wp2
          have he := (Ru.same_iff _ _).1 HRR.out.symm
          obtain ⟨hx, hy⟩ := HX.out
          exact ⟨⟨k + 1, by go_num, hlt, HBF.out, take_eq HT.out (by rw [List.getElem?_map, hx]; rfl) (by rw [List.getElem?_map, hy]; rfl) he⟩, by simp only [intOf]; omega⟩
        | false =>
          go_wp2
          go_ret
          obtain ⟨hx, hy⟩ := HX.out
          have hne : l.map (·.1) ≠ m.map (·.1) := fun e => by
            have h1 : (l.map (·.1))[k]? = some ⟨id, f, p⟩ := by rw [List.getElem?_map, hx]; rfl
            rw [e, List.getElem?_map, hy] at h1
            have h2 : (⟨id', f', p'⟩ : Ru) = ⟨id, f, p⟩ := by simpa using h1
            have := HRR.out
            rw [h2, Ru.same_self] at this
            cases this
          exact ⟨by rw [decide_eq_false hne]; rfl, HBF.out⟩
      · obtain rfl : k = l.length := by omega
        go_wp2
        go_ret
        have := HT.out
        rw [List.take_of_length_le (by simp), List.take_of_length_le (by simp [HL.out])] at this
        exact ⟨by rw [decide_eq_true this]; rfl, HB.out⟩
  · have hne := bne_iff_ne.2 (show (l.length : Int) ≠ (m.length : Int) by omega)
    have hd : decide (l.map (·.1) = m.map (·.1)) = false := decide_eq_false (fun e => hl (by have := congrArg List.length e; simpa using this))
    rw [hd]
    clear hd
    go_enter Tryd.func22, Tryd.ntmps22
    go_wp2
    go_ret
    exact ⟨rfl, Below.refl _ _⟩
end Go.Proofs.YtkfjnllbjlndlaaDoor
