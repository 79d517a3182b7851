/- riddleref20.CheckAll. -/
import Derived.Test.YtkfjnllbjlndlaaDoorRuT
import Derived.Test.YtkfjnllbjlndlaaDoorRfA
import Derived.Test.YtkfjnllbjlndlaaDoorRfC
import Derived.Deep.QuietTactic
import Derived.BigQuiet
namespace Go.Proofs.YtkfjnllbjlndlaaDoor
open Go.RowKit

theorem ids_at {l : List RV} {k : Nat} {x : RV} (h : l[k]? = some x) : (l.map (·.1.id))[k]? = some x.1.id := by rw [List.getElem?_map, h]; rfl

set_option maxRecDepth 100000 in
set_option maxHeartbeats 4000000 in
theorem rcheckAll_any (w : World) (A : Option Addr) (c : Nat) (l : List RV) (h : RdRs w w.heap.size A l) :
    Calls Tryd.prog 17 #[.slice A l.length c] w fun e w' => e = .returned (.tuple #[.int .i64 (chkAll (l.map (·.1))).1, .int .i64 (chkAll (l.map (·.1))).2]) ∧ Below w.heap.size w w' := by
  have HR := Lib.hid h
  clear h
  obtain ⟨⟨an, ae⟩, hA⟩ : ∃ q, q = chkAll (l.map (·.1)) := ⟨_, rfl⟩
  rw [← hA]
  have HA := Lib.hid hA
  clear hA
  by_cases hl : 1024 < l.length
  · have hli : (1024 : Int) < (l.length : Int) := by omega
    have e1 : chkAll (l.map (·.1)) = (1024, 3) := by unfold chkAll; rw [if_pos (by rw [List.length_map]; exact hl)]
    have e2 := HA.out
    rw [e1] at e2
    injection e2 with e2 e3
    subst e2 e3
    clear e1
    go_enter Tryd.func17, Tryd.ntmps17
    go_wp2
    go_ret2
    exact ⟨rfl, Below.refl _ _⟩
  · have hli : ¬ (1024 : Int) < (l.length : Int) := by omega
    have e1 : chkAll (l.map (·.1)) = chkGo (l.map (·.1)) [] 0 := by unfold chkAll; rw [if_neg (by rw [List.length_map]; exact hl)]
    have HE0 := Lib.hid (HA.out.trans e1)
    clear e1
    go_enter Tryd.func17, Tryd.ntmps17
    go_wp2
    go_loopw [4] (fun q wr => ∃ (k : Nat), q = .int .i64 k ∧ k ≤ l.length ∧ Below w.heap.size w wr ∧ (an, ae) = chkGo ((l.drop k).map (·.1)) ((l.map (·.1.id)).take k) k) (fun q _ => l.length - (intOf q).toNat)
    case atStart => exact ⟨0, rfl, Nat.zero_le _, Below.refl _ _, HE0.out⟩
    case round =>
      obtain ⟨i, rfl, hk, hB, hT⟩ := hrel
      have HB := Lib.hid hB
      have HT := Lib.hid hT
      clear hB hT
      by_cases hlt : i < l.length
      · obtain ⟨x, hx⟩ : ∃ x, l[i]? = some x := ⟨_, List.getElem?_eq_getElem hlt⟩
        obtain ⟨hpr, _, hpl, _⟩ := HR.out.pats x (List.mem_of_getElem? hx)
        obtain ⟨ad, rfl, hab, p0, p1, p2, p3, p4, p5, p6⟩ := (HR.out.below HB.out).at7 hx
        have HP := Lib.hid (show RdB wr wr.heap.size x.2.1 x.1.p from Reads.more (Reads.below hpr HB.out) HB.out.size)
        have hi0 : ∀ W, Below w.heap.size w W → W.cell? (ad.add (i * 7)) = some (.int .i64 x.1.id) := fun W hb => by
          obtain ⟨ad', e, _, q0, _⟩ := (HR.out.below hb).at7 hx
          injection e with e
          subst e
          exact q0
        have HI0 := Lib.hid hi0
        clear hi0
        obtain ⟨⟨id, f, p⟩, Ap, cp⟩ := x
        simp only at p0 p1 p2 p3 p4 p5 p6 hpr hpl
        have HX := Lib.hid hx
        obtain ⟨e, he⟩ : ∃ e, e = (⟨id, f, p⟩ : Ru).chk := ⟨_, rfl⟩
        have HE := Lib.hid he
        have hstep : chkGo ((l.drop i).map (·.1)) ((l.map (·.1.id)).take i) i = if e ≠ 0 then ((i : Int), e) else if id ∈ (l.map (·.1.id)).take i then ((i : Int), 5) else chkGo ((l.drop (i + 1)).map (·.1)) ((l.map (·.1.id)).take (i + 1)) ((i : Int) + 1) := by
          rw [List.drop_eq_getElem_cons hlt]
          have h1 : l[i] = (⟨id, f, p⟩, Ap, cp) := by rw [List.getElem?_eq_getElem hlt] at hx; injection hx
          have h2 : (l.map (·.1.id)).take (i + 1) = (l.map (·.1.id)).take i ++ [id] := by rw [List.take_add_one, ids_at hx]; rfl
          rw [h1, h2]
          simp only [List.map_cons, chkGo, he]
        have HST := Lib.hid (HT.out.trans hstep)
        clear hx hpr he hstep
        by_cases h0 : e = 0
        · subst h0
          go_wp2_with (go_at_call 39; (with_reducible refine (rcheck_lit _ ⟨id, f, p⟩ Ap cp HP.out hpl).mono ?_); rintro e w1 ⟨rfl, hb⟩; rw [← HE.out]; have HB1 := Lib.hid (below_keep HB.out hb (Nat.le_refl _)); clear hb p0 p1 p2 p3 p4 p5 p6)
          go_loopw [6] (fun q wr => ∃ (k : Nat), q = .int .i64 k ∧ k ≤ i ∧ Below w.heap.size w wr ∧ ∀ j, j < k → (l.map (·.1.id))[j]? ≠ some id) (fun q _ => i - (intOf q).toNat)
          case atStart => exact ⟨0, rfl, Nat.zero_le _, HB1.out, fun j hj => by omega⟩
          case round =>
            obtain ⟨k, rfl, hk2, hB2, hno⟩ := hrel
            have HB2 := Lib.hid hB2
            have HNO := Lib.hid hno
            clear hB2 hno
            by_cases hki : k < i
            · obtain ⟨y, hy⟩ : ∃ y, l[k]? = some y := ⟨_, List.getElem?_eq_getElem (by omega)⟩
              obtain ⟨ad', e', _, q0, _⟩ := (HR.out.below HB2.out).at7 hy
              injection e' with e'
              subst e'
              have p0 := HI0.out _ HB2.out
              have hyi := ids_at hy
              obtain ⟨⟨id', f', p'⟩, Ap', cp'⟩ := y
              simp only at q0 p0 hyi
              have HY := Lib.hid hyi
              clear hyi hy
              by_cases heq : id' = id
              · subst heq
                have hbb : (id' == id') = true := beq_self_eq_true id'
                go_wp2
                go_quiet (fail)
                go_wp2
                go_ret2
                have h1 := HST.out
                rw [if_neg (by simp), if_pos (by rw [List.mem_iff_getElem?]; exact ⟨k, by rw [List.getElem?_take_of_lt hki]; exact HY.out⟩)] at h1
                injection h1 with h1 h2
                rw [h1, h2]
                exact ⟨rfl, below_drewN' HB2.out _⟩
              · have hne := beq_eq_false_iff_ne.2 heq
                go_wp2
                go_quiet (fail)
                go_wp2
                refine ⟨⟨k + 1, by go_num, hki, below_drewN' HB2.out _, fun j hj => ?_⟩, by simp only [intOf]; omega⟩
                by_cases hjk : j = k
                · subst hjk
                  rw [HY.out]
                  intro e
                  injection e with e
                  exact heq e
                · exact HNO.out j (by omega)
            · obtain rfl : k = i := by omega
              go_wp2
              have h1 := HST.out
              rw [if_neg (by simp), if_neg (fun hm => by
                rw [List.mem_iff_getElem?] at hm
                obtain ⟨j, hj⟩ := hm
                have hjk : j < k := by
                  have := (List.getElem?_eq_some_iff.1 hj).1
                  rw [List.length_take] at this
                  omega
                rw [List.getElem?_take_of_lt hjk] at hj
                exact HNO.out j hjk hj)] at h1
              exact ⟨⟨k + 1, by go_num, hlt, HB2.out, h1⟩, by simp only [intOf]; omega⟩
        · have he1 := bne_iff_ne.2 h0
          go_wp2_with (go_at_call 39; (with_reducible refine (rcheck_lit _ ⟨id, f, p⟩ Ap cp HP.out hpl).mono ?_); rintro e w1 ⟨rfl, hb⟩; rw [← HE.out]; have HB1 := Lib.hid (below_keep HB.out hb (Nat.le_refl _)); clear hb)
          go_ret2
          have h1 := HST.out
          rw [if_pos h0] at h1
          injection h1 with h1 h2
          rw [h1, h2]
          exact ⟨rfl, HB1.out⟩
      · obtain rfl : i = l.length := by omega
        go_wp2
        go_ret2
        have h1 := HT.out
        rw [List.drop_of_length_le (Nat.le_refl _)] at h1
        simp only [List.map_nil, chkGo] at h1
        injection h1 with h1 h2
        rw [h1, h2]
        exact ⟨rfl, HB.out⟩
end Go.Proofs.YtkfjnllbjlndlaaDoor
