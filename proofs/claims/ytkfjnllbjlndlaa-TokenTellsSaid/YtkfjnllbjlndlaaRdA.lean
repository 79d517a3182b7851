/- The lexer's read: a closure over a copy of the pattern. -/
import Derived.Test.YtkfjnllbjlndlaaBytes
import Derived.Test.YtkfjnllbjlndlaaOwn
import Derived.Test.YtkfjnllbjlndlaaShut
namespace Go.Proofs.Ytkfjnllbjlndlaa
open Go.RowKit

set_option maxHeartbeats 1000000 in
set_option maxRecDepth 100000 in
theorem sclone_any (w : World) (B : Nat) (A : Option Addr) (c : Nat) (bs : List UInt8) (h : RdB w B A bs) (_ : B ≤ w.heap.size) (hn : bs.length ≤ 140737488351232) :
    Calls Try.prog 40 #[.slice A bs.length c] w fun e w' => ∃ v', e = .returned v' ∧ w'.ownsRow w.heap.size 5 1 v' bs.length (bcells bs) ∧ Below w.heap.size w w' := by
  have q22 : ∀ (w : World) (a : Option Addr) (n c n' c' : Nat), (binOp .eql 29 (.slice a n c) (.slice none n' c')).run Try.prog w = .ok (.bool a.isNone) w := fun w a n c n' c' => Lib.run_eql_slice_nil w _ _ a n c n' c' Try.underlying29
  rcases A with _ | a
  · have hz : bs.length = 0 := by
      rcases Nat.eq_zero_or_pos bs.length with h0 | h0
      · exact h0
      · obtain ⟨ad, e, _⟩ := h.2 h0
        cases e
    obtain rfl : bs = [] := List.eq_nil_of_length_eq_zero hz
    clear h hz hn
    go_enter Try.func40, Try.ntmps40
    go_wp2
    go_ret
    exact ⟨_, rfl, World.ownsRow_nil _ _ _ _, Below.refl _ _⟩
  · have hc := h.nums
    clear h
    have HC := Lib.hid hc
    clear hc
    obtain ⟨i0, hi, hz0, hz1, hz2⟩ := info_parts infoU8
    go_enter Try.func40, Try.ntmps40
    go_wp2_with (at_builtin; refine wpList_append_own _ rfl _ _ 29 rfl w.heap.size 5 i0 (.int .u8 0) 1 1 Try.underlying29 hi hz0 hz1 hz2 rfl (by decide) _ _ _ rfl (World.ownsRow_made w #[] 0 (Nat.le_refl _) (Nat.zero_le _) rfl) a bs.length c (bcells bs) rfl ?qc1 ?qc2 ?qc3 ?qc4 ?qc5 ?qc6 ?_)
    case qc1 => simp [bcells]
    case qc2 =>
      intro j u hj
      have hjn : j < bs.length := by
        have := (List.getElem?_eq_some_iff.1 hj).1
        simpa [bcells] using this
      refine Lib.cell?_alloc_some _ ?_
      rw [HC.out j hjn]
      rw [bcells_get bs j hjn] at hj
      injection hj with hj
      subst hj
      simp [List.getD_eq_getElem?_getD, List.getElem?_eq_getElem hjn]
    case qc3 => intro u hu; obtain ⟨x, _, rfl⟩ := List.mem_map.1 hu; rfl
    case qc4 => unfold maxLen; omega
    case qc5 => omega
    case qc6 => simp
    intro v' w1 hown hgrow hnil
    have HG := Lib.hid hgrow
    clear hgrow hnil
    go_wp2
    go_ret
    refine ⟨v', rfl, by simpa using hown, ?_⟩
    exact ((Below.refl _ w).alloc (Nat.le_refl _) _).grown HG.out (by simp) (by intro k hk; simp [Value.ownBlock] at hk; omega)

theorem read_any (w : World) (A : Option Addr) (c : Nat) (p : List UInt8) (hr : RdB w w.heap.size A p) (hn : p.length ≤ 140737488351232) :
    Calls Try.prog 33 #[.slice A p.length c] w fun e w' => ∃ (bp : Nat) (A' : Option Addr) (c' : Nat), e = .returned (.func (.func 41) #[] #[.pointer (some ⟨bp, 0, none⟩)]) ∧ Bk w' bp 29 #[.slice A' p.length c'] ∧ RdB w' w'.heap.size A' p ∧ (∀ ad, A' = some ad → w.heap.size ≤ ad.block) ∧ w.heap.size ≤ bp ∧ Below w.heap.size w w' := by
  have HR := Lib.hid hr
  clear hr
  go_enter Try.func33, Try.ntmps33
  go_wp2_with (go_at_call 40; refine (sclone_any _ _ A c p (Reads.alloc HR.out (Nat.le_refl _) _) (by rw [World.size_alloc]; omega) hn).mono ?_; rintro e w1 ⟨v', rfl, ho, hb⟩; obtain ⟨A', c', rfl⟩ := own_slice ho; have HO := Lib.hid ho; have HB := Lib.hid hb; have hk := ((Bk.new w 29 #[.slice A p.length c]).kept hb); have HK := Lib.hid hk; have hk1 := hk.cells; have hk2 := hk.frozens; clear ho hb hk)
  go_ret
  have hs1 := HB.out.size
  rw [World.size_alloc] at hs1
  have ho := own_set HO.out (p := ⟨w.heap.size, 0, none⟩) (by simp) (.slice A' p.length c')
  refine ⟨w.heap.size, A', c', rfl, HK.out.set 0 _, Reads.of_own ho, ?_, Nat.le_refl _, ?_⟩
  · rintro ad rfl
    have := own_base HO.out ad.block rfl
    rw [World.size_alloc] at this
    omega
  · exact (below_then ((Below.refl _ w).alloc (Nat.le_refl _) _) HB.out (by simp)).setCell (p := ⟨w.heap.size, 0, none⟩) (Nat.le_refl _) _
end Go.Proofs.Ytkfjnllbjlndlaa
