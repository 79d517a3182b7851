/- bytes.Cut at a newline; rule.Lines: a closure over a copy of the text. -/
import Derived.Test.YtkfjnllbjlndlaaDoorBytes
import Derived.Test.YtkfjnllbjlndlaaDoorLnM
import Derived.Test.YtkfjnllbjlndlaaDoorOwn
import Derived.Deep.QuietTactic
import Derived.BigQuiet
namespace Go.Proofs.YtkfjnllbjlndlaaDoor
open Go.RowKit

theorem cutb_l {P : Program} (t e : TypeId) {i : TypeInfo} (ht : P.underlying t = some (.slice e)) (hi : P.info? e = some i) (hsz : i.size = 1) (kl : IntKind)
    (A : Option Addr) (bs : List UInt8) (c lo : Nat) (l : Int) (hl : l = (lo : Int)) (h1 : lo ≤ bs.length) (hc : bs.length ≤ c) :
    ∃ (A' : Option Addr) (c' : Nat), (∀ W : World, (Instr.slice t (.slice A bs.length c) (some (.int kl l)) none none).run P W = .ok (.slice A' (bs.drop lo).length c') W) ∧ (bs.drop lo).length ≤ c' ∧
      (∀ (w : World) (B : Nat), RdB w B A bs → RdB w B A' (bs.drop lo)) ∧ ∀ ad, A' = some ad → ∃ ad0, A = some ad0 ∧ ad0.block = ad.block := by
  subst hl
  have hel : P.elem t = e := by simp [Program.elem, ht]
  have hu : P.underlying t = some (.slice (P.elem t)) := by rw [hel]; exact ht
  have hlen : (bs.drop lo).length = bs.length - lo := List.length_drop
  refine ⟨if c = lo then A else A.map (·.add (lo * 1)), c - lo, fun W => ?_, by omega, fun w B hr => ?_, fun ad e => ?_⟩
  · rw [run_slice_l W t A bs.length c hu kl (lo : Int) (by omega) (by omega), hel, hlen]
    simp [sizeOf, typeInfo, hi, hsz, sliced, Result.andThen]
  · have h4 := Reads.cut (k := lo) (cap := c) hr h1 hc
    unfold RdB
    rw [hlen]
    have hb : bcells (bs.drop lo) = (bcells bs).drop (lo * 1) := by simp [bcells, List.map_drop]
    rw [hb]
    exact h4
  · split at e
    · exact ⟨ad, e, rfl⟩
    · rcases A with _ | ad0
      · cases e
      · injection e with e
        subst e
        exact ⟨ad0, rfl, (block_of_add _ _).symm⟩
theorem cutb_h {P : Program} (t e : TypeId) {i : TypeInfo} (ht : P.underlying t = some (.slice e)) (hi : P.info? e = some i) (hsz : i.size = 1) (kl : IntKind)
    (A : Option Addr) (bs : List UInt8) (c lo : Nat) (l : Int) (hl : l = (lo : Int)) (h1 : lo ≤ bs.length) (hc : bs.length ≤ c) :
    (∀ W : World, (Instr.slice t (.slice A bs.length c) none (some (.int kl l)) none).run P W = .ok (.slice A (bs.take lo).length c) W) ∧ (bs.take lo).length ≤ c ∧
      ∀ (w : World) (B : Nat), RdB w B A bs → RdB w B A (bs.take lo) := by
  subst hl
  have hel : P.elem t = e := by simp [Program.elem, ht]
  have hu : P.underlying t = some (.slice (P.elem t)) := by rw [hel]; exact ht
  have hlen : (bs.take lo).length = lo := by rw [List.length_take]; omega
  refine ⟨fun W => ?_, by omega, fun w B hr => ?_⟩
  · rw [run_slice_h W t A bs.length c hu kl (lo : Int) (by omega) (by omega), hel, hlen]
    cases A <;> simp [sizeOf, typeInfo, hi, hsz, sliced, Result.andThen, Addr.add]
  · have h4 := Reads.take_ (k := lo) hr h1
    unfold RdB
    rw [hlen]
    have hb : bcells (bs.take lo) = (bcells bs).take (lo * 1) := by simp [bcells, List.map_take]
    rw [hb]
    exact h4

set_option maxHeartbeats 1000000 in
set_option maxRecDepth 100000 in
theorem index1_any (w : World) (A : Option Addr) (c : Nat) (bs : List UInt8) (h : RdB w w.heap.size A bs) (g c2 : Nat) (hc : w.cell? ⟨g, 0, none⟩ = some (.int .u8 10)) :
    Calls Tryd.prog 94 #[.slice A bs.length c, .slice (some ⟨g, 0, none⟩) 1 c2] w fun e w' => e = .returned (.int .i64 (Lib.indexByte bs 10)) ∧ w = w' := by
  have HR := Lib.hid h
  clear h
  go_enter Tryd.func94, Tryd.ntmps94
  go_wp2_with (go_at_call 59; refine (indexByte_any _ _ A c bs 10 HR.out).mono ?_; rintro e w' ⟨rfl, rfl⟩)
  go_ret
  exact ⟨rfl, rfl⟩

/-- What bytes.Cut hands back at a newline. -/
def CutC (w : World) (A : Option Addr) (bs : List UInt8) (e : Ending) : Prop :=
  ∃ (c1 : Nat) (A2 : Option Addr) (c2 : Nat) (b : Bool), e = .returned (.tuple #[.slice A (headL bs).length c1, .slice A2 (tailL bs).length c2, .bool b]) ∧ RdB w w.heap.size A (headL bs) ∧ RdB w w.heap.size A2 (tailL bs) ∧
    (headL bs).length ≤ c1 ∧ (tailL bs).length ≤ c2 ∧ ∀ ad, A2 = some ad → ∃ ad0, A = some ad0 ∧ ad0.block = ad.block

set_option maxHeartbeats 1000000 in
set_option maxRecDepth 100000 in
theorem cut_any (w : World) (A : Option Addr) (c : Nat) (bs : List UInt8) (h : RdB w w.heap.size A bs) (hcap : bs.length ≤ c) (hlen : bs.length ≤ 140737488351232) (g c2 : Nat) (hc : w.cell? ⟨g, 0, none⟩ = some (.int .u8 10)) :
    Calls Tryd.prog 64 #[.slice A bs.length c, .slice (some ⟨g, 0, none⟩) 1 c2] w fun e w' => CutC w A bs e ∧ ∃ m, w' = w.drewN m := by
  obtain ⟨i0, hi, hz0, hz1, hz2⟩ := info_parts infoU8
  rcases split_index bs with ⟨i, h1, h2, h3, h4⟩ | ⟨h1, h3, h4⟩
  · obtain ⟨i1, hi1⟩ : ∃ i1, i1 = i + 1 := ⟨_, rfl⟩
    have hw : IntKind.i64.wrap ((i : Int) + 1) = (i1 : Int) := by rw [hi1]; simpa using IntWalk.i64_in ((i : Int) + 1) (by omega)
    obtain ⟨r1, r2, r3⟩ := cutb_h (P := Tryd.prog) 24 5 Tryd.underlying24 hi hz1 .i64 A bs c i (i : Int) rfl (by omega) hcap
    obtain ⟨A2, c3, q1, q2, q3, q4⟩ := cutb_l (P := Tryd.prog) 24 5 Tryd.underlying24 hi hz1 .i64 A bs c i1 (i1 : Int) rfl (by omega) hcap
    have HP := Lib.hid (And.intro h3 (hi1 ▸ h4 : tailL bs = bs.drop i1))
    have HR := Lib.hid h
    have HX := Lib.hid (And.intro r2 (And.intro r3 (And.intro q2 (And.intro q3 q4))))
    have H1 := Lib.hid h1
    clear h h3 h4 r2 r3 q2 q3 q4 hi1 h1 hi hz0 hz1 hz2
    go_enter Tryd.func64, Tryd.ntmps64
    go_wp2_with (go_at_call 94; refine (index1_any _ A c bs HR.out g c2 hc).mono ?_; rintro e w' ⟨rfl, rfl⟩; rw [H1.out])
    go_quiet (fail)
    go_wp2
    go_ret3
    obtain ⟨r2, r3, q2, q3, q4⟩ := HX.out
    obtain ⟨h3, h4⟩ := HP.out
    rw [← h3] at r2 r3
    rw [← h4] at q2 q3
    have e1 : min i bs.length = (headL bs).length := by rw [h3, List.length_take]
    have e2 : bs.length - i1 = (tailL bs).length := by rw [h4, List.length_drop]
    show CutC w A bs (.returned (.tuple #[.slice A (min i bs.length) c, .slice A2 (bs.length - i1) c3, .bool true])) ∧ _
    rw [e1, e2]
    exact ⟨⟨_, _, _, _, rfl, r3 _ _ HR.out, q3 _ _ HR.out, r2, q2, q4⟩, _, rfl⟩
  · have HP := Lib.hid (And.intro h3 h4)
    have HR := Lib.hid h
    have H1 := Lib.hid h1
    clear h h3 h4 h1
    go_enter Tryd.func64, Tryd.ntmps64
    go_wp2_with (go_at_call 94; refine (index1_any _ A c bs HR.out g c2 hc).mono ?_; rintro e w' ⟨rfl, rfl⟩; rw [H1.out])
    go_ret3
    unfold CutC
    obtain ⟨h3, h4⟩ := HP.out
    rw [h3, h4]
    exact ⟨⟨_, _, _, _, rfl, HR.out, Reads.nil_ _ _ _ _, hcap, Nat.zero_le _, fun ad e => by cases e⟩, 0, rfl⟩

theorem lines_any (w : World) (A : Option Addr) (c : Nat) (p : List UInt8) (hr : RdB w w.heap.size A p) (hn : p.length ≤ 140737488351232) :
    Calls Tryd.prog 41 #[.slice A p.length c] w fun e w' => ∃ (bp : Nat) (A' : Option Addr) (c' : Nat), e = .returned (.func (.func 63) #[] #[.pointer (some ⟨bp, 0, none⟩)]) ∧ Bk w' bp 24 #[.slice A' p.length c'] ∧ RdB w' w'.heap.size A' p ∧ p.length ≤ c' ∧ (∀ ad, A' = some ad → w.heap.size ≤ ad.block ∧ ad.block < w'.heap.size) ∧ w.heap.size ≤ bp ∧ Below w.heap.size w w' := by
  have HR := Lib.hid hr
  clear hr
  go_enter Tryd.func41, Tryd.ntmps41
  go_wp2_with (go_at_call 38; refine (clone_any _ _ A c p (Reads.alloc HR.out (Nat.le_refl _) _) (by rw [World.size_alloc]; omega) hn).mono ?_; rintro e w1 ⟨v', rfl, ho, hb⟩; obtain ⟨A', c', rfl⟩ := own_slice ho; have HO := Lib.hid ho; have HB := Lib.hid hb; have hk := ((Bk.new w 24 #[.slice A p.length c]).kept hb); have HK := Lib.hid hk; have hk1 := hk.cells; have hk2 := hk.frozens; clear ho hb hk)
  go_ret
  have hs1 := HB.out.size
  rw [World.size_alloc] at hs1
  have ho := own_set HO.out (p := ⟨w.heap.size, 0, none⟩) (by simp) (.slice A' p.length c')
  refine ⟨w.heap.size, A', c', rfl, HK.out.set 0 _, Reads.of_own ho, own_cap ho, ?_, Nat.le_refl _, ?_⟩
  · rintro ad rfl
    have h1 := HO.out.lt ad.block rfl
    rw [World.size_alloc] at h1
    exact ⟨by omega, by simpa using h1.2⟩
  · exact (below_then ((Below.refl _ w).alloc (Nat.le_refl _) _) HB.out (by simp)).setCell (p := ⟨w.heap.size, 0, none⟩) (Nat.le_refl _) _
end Go.Proofs.YtkfjnllbjlndlaaDoor
