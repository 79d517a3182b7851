/- rule.Lines, its closure: the lines one by one. -/
import Derived.Test.YtkfjnllbjlndlaaDoorLnA
import Derived.Test.YtkfjnllbjlndlaaDoorRp
import Derived.Test.YtkfjnllbjlndlaaDoorHeld
namespace Go.Proofs.YtkfjnllbjlndlaaDoor
open Go.RowKit Go.Shelf

attribute [local go_sem] Oper.semAt_some

abbrev LnX := (Nat × List UInt8) × Value
def encL (x : LnX) : Array Value := #[.int .i64 x.1.1, x.2]
def PxL (m b : Nat) (x : LnX) (W : World) : Prop := ∃ A c, x.2 = .slice A x.1.2.length c ∧ RdB W W.heap.size A x.1.2 ∧ (∀ ad, A = some ad → b ≤ ad.block) ∧ x.1.2.length ≤ c ∧ x.1.2.length ≤ m
def lenOf : Value → Nat
  | .slice _ n _ => n
  | _ => 0

theorem Reads.narrow {w : World} {B B' size n : Nat} {A : Option Addr} {xs : List Value} (h : Reads w B size A n xs) (hb : ∀ ad, A = some ad → ad.block < B') : Reads w B' size A n xs :=
  ⟨h.1, fun hn => by
    obtain ⟨ad, e, _, hc⟩ := h.2 hn
    exact ⟨ad, e, hb ad e, hc⟩⟩

set_option maxRecDepth 100000 in
set_option maxHeartbeats 2000000 in
theorem lines1 (n bp : Nat) (A : Option Addr) (c : Nat) (p : List UInt8) (w : World) (hb : Bk w bp 24 #[.slice A p.length c]) (hr : RdB w w.heap.size A p) (hcap : p.length ≤ c) (hlen : p.length ≤ 140737488351232) (Kb : Nat → Prop) (hlA : ∀ ad, A = some ad → Kb ad.block) :
    SeqP Fence.wide n Tryd.prog 63 #[.pointer (some ⟨bp, 0, none⟩)] encL (PxL p.length) Kb (fun xs => xs.map (·.1) = numF 1 (linesM p)) (fun pre => pre.map (·.1) <+: numF 1 (linesM p)) (p.length + 1) w := by
  intro l J Jx W hW hJ hJx hY h0
  have hbW := hb.below hW hb.lt
  have hc1 := hbW.cells
  have hws := hW.size
  have HR := Lib.hid (show RdB W w.heap.size A p from Reads.below hr hW)
  have HJ := Lib.hid hJ
  have HJx := Lib.hid hJx
  have HY := Lib.hid hY
  have H0 := Lib.hid h0
  have HLA := Lib.hid hlA
  clear hbW hr hW hb hJx hY h0 hJ hlA
  refine callsIn_of_wp Tryd.func63 rfl trivial ?_ rfl
  simp only [Tryd.ntmps63, List.size_toArray, List.length_cons, List.length_nil, Nat.reduceAdd, Nat.reduceSub, Array.replicate_succ, Array.replicate_zero, List.push_toArray, List.append_toArray, List.nil_append, List.cons_append]
  have hfw : ∀ f, Fence.wide.fn f := fun _ => trivial
  have hdw : Fence.wide.depth.isSome = false := rfl
  gi_wp2
  gi_loopw [3, 4] (fun rest nn Wr => ∃ (pre : List LnX) (k : Nat) (bs : List UInt8) (A2 : Option Addr) (c2 : Nat), nn = .int .i64 k ∧ rest = .slice A2 bs.length c2 ∧ k = pre.length + 1 ∧ bs.length ≤ c2 ∧ bs.length + pre.length ≤ p.length ∧ RdB Wr w.heap.size A2 bs ∧ (∀ ad, A2 = some ad → Kb ad.block) ∧ numF 1 (linesM p) = pre.map (·.1) ++ numF k (linesM bs) ∧ J pre Wr ∧ W.heap.size ≤ Wr.heap.size) (fun rest _ _ => lenOf rest)
  case atStart => exact ⟨[], 1, p, A, c, rfl, rfl, rfl, hcap, by simp, HR.out, HLA.out, rfl, H0.out, Nat.le_refl _⟩
  case round =>
    obtain ⟨pre, k, bs, A2, c2, rfl, rfl, hk, h2, h3, h4, h5, h6, h7, h8⟩ := hrel
    have hkb : k ≤ p.length + 1 := by omega
    have HK := Lib.hid hk
    clear hk
    have HR2 := Lib.hid h4
    have HL2 := Lib.hid h5
    have HN := Lib.hid h6
    have HJ2 := Lib.hid h7
    clear h4 h5 h6 h7
    by_cases hlt : 0 < bs.length
    · have ht := tailL_le bs
      have hh := headL_le bs
      have HLN := Lib.hid (linesM_cons hlt)
      have hcs : ∀ i, (wr.alloc (.cells #[.int .u8 10] 5)).cell? ⟨wr.heap.size, i, none⟩ = #[Value.int .u8 10][i]? := (Bk.new wr 5 #[.int .u8 10]).cells
      gi_wp2_with (first | (refine (HRd.out).mono ?_; rintro e W3 hd; obtain ⟨b, rfl, hd1, hd2⟩ := seq_dec hd; have HD1 := Lib.hid hd1; have HD2 := Lib.hid hd2; clear hd hd1 hd2) | (gi_at_call 38; refine (callsIn_wide.2 (clone_any _ _ A2 c3 (headL bs) (Reads.drewN HRH.out m) (Nat.le_refl _) (by omega))).mono ?_; rintro e w2 ⟨v2, rfl, ho, hb⟩; obtain ⟨A5, c5, rfl⟩ := own_slice ho; have hbs := hb.size; have hj := bears_none HJ.out (bears_none HJ.out (bears_none HJ.out HJ2.out (grown_alloc _ _)) (grown_drewN _ m)) (grown_below hb); obtain ⟨fn, tmps, assign, body, hy, hRd⟩ := HY.out pre ((k, headL bs), .slice A5 (headL bs).length c5) w2 hj ⟨A5, c5, rfl, own_reads ho, (fun ad e => by have h9 := own_base ho ad.block (by rw [e]; rfl); simp at h9; omega), own_cap ho, (by simp only; omega)⟩ (by simp at hbs; omega) (by omega); have HRd := Lib.hid hRd; have HB2 := Lib.hid hb; simp only [encL] at hy; clear ho hb hj hRd hbs) | (gi_at_call 64; refine (callsIn_wide.2 (cut_any _ A2 c2 bs (Reads.more (Reads.alloc HR2.out (by omega) _) (by simp; omega)) h2 (by omega) wr.heap.size _ (hcs 0))).mono ?_; rintro e w1 ⟨⟨c3, A4, c4, bb, rfl, hrh, hrt, hch, hct, hA4⟩, m, rfl⟩; have HRH := Lib.hid hrh; have HRT := Lib.hid hrt; have HA4 := Lib.hid hA4; clear hrh hrt hA4))
      · rename_i hb
        refine bodyPost_ret (results_none rfl _ _ _) rfl ?_
        refine ⟨⟨_, rfl⟩, .inr ⟨_, ?_, HD2.out (by simpa using hb)⟩⟩
        rw [HN.out, HLN.out, List.map_append]
        exact (List.prefix_append_right_inj _).2 ⟨_, rfl⟩
      · rename_i hb
        obtain ⟨h1, hh1⟩ := HD1.out (by simpa using hb)
        have hs2 := HB2.out.size
        have hs3 := hh1.size
        have hs2' : wr.heap.size + 1 ≤ w2.heap.size := by simpa using hs2
        refine ⟨⟨pre ++ [((k, headL bs), .slice A5 (headL bs).length c5)], k + 1, tailL bs, A4, c4, by go_num, rfl, by rw [HK.out]; simp, hct, by simp only [List.length_append, List.length_cons, List.length_nil]; omega, ?_, ?_, ?_, h1, by omega⟩, by simp only [lenOf]; omega⟩
        · refine RdB.keptOn ?_ hh1 (fun ad e => .inl (?_ : Kb ad.block)) (by omega)
          · refine Reads.narrow (Reads.below (Reads.drewN HRT.out m) HB2.out) fun ad e => ?_
            obtain ⟨ad0, e0, eb⟩ := HA4.out ad e
            obtain ⟨ad1, e1, h2, _⟩ := HR2.out.at_ hlt
            rw [e0] at e1
            injection e1 with e1
            subst e1
            omega
          · obtain ⟨ad0, e0, eb⟩ := HA4.out ad e
            rw [← eb]
            exact HL2.out ad0 e0
        · intro ad e
          obtain ⟨ad0, e0, eb⟩ := HA4.out ad e
          rw [← eb]
          exact HL2.out ad0 e0
        · rw [HN.out, HLN.out, List.map_append]
          simp [numF]
    · obtain rfl : bs = [] := List.eq_nil_of_length_eq_zero (by omega)
      simp only [List.length_nil]
      gi_wp2
      refine bodyPost_end (results_none rfl _ _ _) rfl ?_
      refine ⟨⟨_, rfl⟩, .inl ⟨pre, ?_, HJ2.out⟩⟩
      have h := HN.out
      rw [linesM_nil, numF, List.append_nil] at h
      exact h.symm
end Go.Proofs.YtkfjnllbjlndlaaDoor
