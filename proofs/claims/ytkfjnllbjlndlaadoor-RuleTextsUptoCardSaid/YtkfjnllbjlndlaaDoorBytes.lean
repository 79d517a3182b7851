/- What bytes.IndexByte and bytes.Clone compute, of slices that read as lists of bytes. -/
import Derived.Test.YtkfjnllbjlndlaaDoorProg
import Derived.Test.YtkfjnllbjlndlaaDoorMem
import Derived.WalkKit
import Derived.WalkSpells
import Derived.WalkLawsBesides
import Derived.Handy
import Derived.Shelf.Bytes.SlIndexAt
namespace Go.Proofs.YtkfjnllbjlndlaaDoor
open Go.RowKit

theorem bytesOf_nums (bs : List UInt8) : Lib.bytesOf (bs.map fun b => (b.toNat : Int)) = bs := by
  unfold Lib.bytesOf
  rw [List.map_map]
  conv => rhs; rw [← List.map_id bs]
  apply List.map_congr_left
  intro x _
  simp

theorem RdB.nums {w : World} {B : Nat} {a : Addr} {bs : List UInt8} (h : RdB w B (some a) bs) : ∀ i, i < bs.length → w.cell? (a.add i) = some (.int .u8 ((bs.map fun b => (b.toNat : Int)).getD i 0)) := by
  intro i hi
  obtain ⟨ad, e, _, hc⟩ := h.at_ hi
  injection e with e
  subst e
  rw [hc]
  simp [List.getD_eq_getElem?_getD, List.getElem?_eq_getElem hi]

set_option maxHeartbeats 1000000 in
set_option maxRecDepth 100000 in
theorem indexByte_any (w : World) (B : Nat) (A : Option Addr) (c : Nat) (bs : List UInt8) (b : UInt8) (h : RdB w B A bs) :
    Calls Tryd.prog 59 #[.slice A bs.length c, .int .u8 b.toNat] w fun e w' => e = .returned (.int .i64 (Lib.indexByte bs b)) ∧ w = w' := by
  rcases A with _ | a
  · have hn : bs.length = 0 := by
      rcases Nat.eq_zero_or_pos bs.length with h0 | h0
      · exact h0
      · obtain ⟨ad, e, _⟩ := h.2 h0
        cases e
    obtain rfl : bs = [] := List.eq_nil_of_length_eq_zero hn
    clear h hn
    go_enter Tryd.func59, Tryd.ntmps59
    go_wp2
    rw [run_callFunc_extern Tryd.func91 (by kernel_rfl) (by kernel_rfl) (by kernel_rfl) (e := Extern.BytealgIndexByte.indexByte) (by kernel_rfl), Lib.run_indexByteNil w 0 c b.toNat]
    simp only [Result.andThen]
    rw [Oper.upon_value]
    go_wp2
    go_ret
    exact ⟨rfl, rfl⟩
  · have hc := h.nums
    clear h
    have hr := Lib.run_indexByteAt (P := Tryd.prog) w a bs.length c _ (by simp) hc b.toNat
    rw [bytesOf_nums] at hr
    have hb : ((b.toNat : Int).toNat.toUInt8) = b := by simp
    rw [hb] at hr
    clear hc hb
    have HR := Lib.hid hr
    clear hr
    go_enter Tryd.func59, Tryd.ntmps59
    go_wp2
    rw [run_callFunc_extern Tryd.func91 (by kernel_rfl) (by kernel_rfl) (by kernel_rfl) (e := Extern.BytealgIndexByte.indexByte) (by kernel_rfl), HR.out]
    simp only [Result.andThen]
    rw [Oper.upon_value]
    go_wp2
    go_ret
    exact ⟨rfl, rfl⟩

theorem infoU8 : (Tryd.prog.info? 5).map (fun i => (i.zero, i.size, i.bytes)) = some (some (.int .u8 0), 1, 1) := by kernel_rfl

set_option maxHeartbeats 1000000 in
set_option maxRecDepth 100000 in
theorem clone_any (w : World) (B : Nat) (A : Option Addr) (c : Nat) (bs : List UInt8) (h : RdB w B A bs) (_ : B ≤ w.heap.size) (hn : bs.length ≤ 140737488351232) :
    Calls Tryd.prog 38 #[.slice A bs.length c] w fun e w' => ∃ v', e = .returned v' ∧ w'.ownsRow w.heap.size 5 1 v' bs.length (bcells bs) ∧ Below w.heap.size w w' := by
  have q22 : ∀ (w : World) (a : Option Addr) (n c n' c' : Nat), (binOp .eql 24 (.slice a n c) (.slice none n' c')).run Tryd.prog w = .ok (.bool a.isNone) w := fun w a n c n' c' => Lib.run_eql_slice_nil w _ _ a n c n' c' Tryd.underlying24
  rcases A with _ | a
  · have hz : bs.length = 0 := by
      rcases Nat.eq_zero_or_pos bs.length with h0 | h0
      · exact h0
      · obtain ⟨ad, e, _⟩ := h.2 h0
        cases e
    obtain rfl : bs = [] := List.eq_nil_of_length_eq_zero hz
    clear h hz hn
    go_enter Tryd.func38, Tryd.ntmps38
    go_wp2
    go_ret
    exact ⟨_, rfl, World.ownsRow_nil _ _ _ _, Below.refl _ _⟩
  · have hc := h.nums
    clear h
    have HC := Lib.hid hc
    clear hc
    obtain ⟨i0, hi, hz0, hz1, hz2⟩ := info_parts infoU8
    go_enter Tryd.func38, Tryd.ntmps38
    go_wp2_with (at_builtin; refine wpList_append_own _ rfl _ _ 24 rfl w.heap.size 5 i0 (.int .u8 0) 1 1 Tryd.underlying24 hi hz0 hz1 hz2 rfl (by decide) _ _ _ rfl (World.ownsRow_made w #[] 0 (Nat.le_refl _) (Nat.zero_le _) rfl) a bs.length c (bcells bs) rfl ?qc1 ?qc2 ?qc3 ?qc4 ?qc5 ?qc6 ?_)
    case qc1 => simp [bcells]
    case qc2 =>
      intro j u hj
      have hjn : j < bs.length := by
        have := (List.getElem?_eq_some_iff.1 hj).1
        simpa [bcells] using this
      refine Lib.cell?_alloc_some _ ?_
      rw [HC.out j hjn]
      rw [bcells_get bs j hjn] at hj
      injection hj with hj
      subst hj
      simp [List.getD_eq_getElem?_getD, List.getElem?_eq_getElem hjn]
    case qc3 => intro u hu; obtain ⟨x, _, rfl⟩ := List.mem_map.1 hu; rfl
    case qc4 => unfold maxLen; omega
    case qc5 => omega
    case qc6 => simp
    intro v' w1 hown hgrow hnil
    have HG := Lib.hid hgrow
    clear hgrow hnil
    go_wp2
    go_ret
    refine ⟨v', rfl, by simpa using hown, ?_⟩
    exact ((Below.refl _ w).alloc (Nat.le_refl _) _).grown HG.out (by simp) (by intro k hk; simp [Value.ownBlock] at hk; omega)
end Go.Proofs.YtkfjnllbjlndlaaDoor
