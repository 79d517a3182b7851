/- Words on memory: a block known whole, what a call may have written, a slice that reads as a list. No program in sight. -/
import Derived.Below
import Derived.Laws.OwnMore
import Derived.Deep.Draws
import Derived.Laws.Rows
import Derived.Deep.AppendLies
import Derived.OwnWalk
import Derived.Lib.Hide
import Derived.WalkKit
namespace Go.Proofs.YtkfjnllbjlndlaaDoor
open Go.RowKit

/-- Block g is just these cells, of this element type; none is frozen. -/
def Bk (w : World) (g : Nat) (t : TypeId) (cs : Array Value) : Prop := w.heap[g]? = some (.cells cs t (0, 0))

section
variable {w w' w'' : World} {g : Nat} {t : TypeId} {cs : Array Value}
theorem Bk.lt (h : Bk w g t cs) : g < w.heap.size := (Array.getElem?_eq_some_iff.1 h).1
theorem Bk.cells (h : Bk w g t cs) : ∀ i, w.cell? ⟨g, i, none⟩ = cs[i]? := fun i => cell_of_row w g i cs t (0, 0) h
theorem Bk.frozens (h : Bk w g t cs) : ∀ i, w.frozen? ⟨g, i, none⟩ = false := by
  intro i
  unfold Bk at h
  simp [World.frozen?, h]
theorem Bk.new (w : World) (t : TypeId) (cs : Array Value) : Bk (w.alloc (.cells cs t)) w.heap.size t cs := heap_alloc_new w _
theorem Bk.at_new (w : World) (t : TypeId) (cs : Array Value) (g : Nat) (hg : g = w.heap.size) : Bk (w.alloc (.cells cs t)) g t cs := by subst hg; exact heap_alloc_new w _
theorem Bk.drew (h : Bk w g t cs) : Bk w.drew g t cs := h
theorem Bk.drewN (h : Bk w g t cs) (n : Nat) : Bk (w.drewN n) g t cs := h
theorem Bk.alloc (h : Bk w g t cs) (o : Obj) : Bk (w.alloc o) g t cs := (Below.heap_alloc w o g h.lt).trans h
theorem Bk.set (h : Bk w g t cs) (i : Nat) (u : Value) : Bk (w.setCell ⟨g, i, none⟩ u) g t (cs.setIfInBounds i u) := by
  unfold Bk at h ⊢
  simp [World.setCell, Array.getElem?_modify, h]
theorem Bk.far (h : Bk w g t cs) {p : Addr} (hp : g ≠ p.block) (u : Value) : Bk (w.setCell p u) g t cs := (Below.heap_setCell w p u g hp).trans h
theorem Bk.below {B : Nat} (h : Bk w g t cs) (hb : Below B w w') (hg : g < B) : Bk w' g t cs := (hb.block g hg).trans h
theorem Bk.kept (h : Bk w g t cs) (hb : Below w.heap.size w w') : Bk w' g t cs := (hb.block g h.lt).trans h
theorem Bk.grown {row : Option Nat} (h : Bk w g t cs) (hb : w.grownBy w' row) (hg : some g ≠ row) : Bk w' g t cs := (hb.block g h.lt hg).trans h
theorem Bk.ne_lt (h : Bk w g t cs) {k : Nat} (hk : w.heap.size ≤ k) : g ≠ k := by have := h.lt; omega
end

/-- Stores into cell after cell of a block. -/
def setN (w : World) (g : Nat) : Nat → List Value → World
  | _, [] => w
  | i, v :: vs => setN (w.setCell ⟨g, i, none⟩ v) g (i + 1) vs

def putN (cs : Array Value) : Nat → List Value → Array Value
  | _, [] => cs
  | i, v :: vs => putN (cs.setIfInBounds i v) (i + 1) vs

theorem Bk.setN_ {g : Nat} {t : TypeId} (vs : List Value) : ∀ {w : World} {cs : Array Value} (_ : Bk w g t cs) (i : Nat), Bk (setN w g i vs) g t (putN cs i vs) := by
  induction vs with
  | nil => intro w cs h i; exact h
  | cons v vs ih => intro w cs h i; exact ih (h.set i v) (i + 1)
theorem putN_get (vs : List Value) : ∀ (cs : Array Value) (i : Nat), i + vs.length ≤ cs.size → (putN cs i vs).size = cs.size ∧ ∀ j, (putN cs i vs)[j]? = if i ≤ j ∧ j < i + vs.length then vs[j - i]? else cs[j]? := by
  induction vs with
  | nil => intro cs i h; refine ⟨rfl, fun j => ?_⟩; simp only [putN, List.length_nil]; rw [if_neg (by omega)]
  | cons v vs ih =>
    intro cs i h
    simp only [List.length_cons] at h
    obtain ⟨h1, h2⟩ := ih (cs.setIfInBounds i v) (i + 1) (by simp; omega)
    refine ⟨by simp only [putN]; rw [h1]; simp, fun j => ?_⟩
    simp only [putN]
    rw [h2 j]
    simp only [List.length_cons]
    by_cases hj : i = j
    · subst hj
      rw [if_neg (by omega), if_pos (by omega), Array.getElem?_setIfInBounds]
      rw [if_pos rfl, if_pos (by omega)]
      simp
    · by_cases hc : i + 1 ≤ j ∧ j < i + 1 + vs.length
      · rw [if_pos hc, if_pos (by omega)]
        have : j - i = (j - (i + 1)) + 1 := by omega
        rw [this, List.getElem?_cons_succ]
      · rw [if_neg hc, if_neg (by omega), Array.getElem?_setIfInBounds, if_neg hj]
theorem Bk.putN {w : World} {g : Nat} {t : TypeId} {cs : Array Value} (h : Bk w g t cs) (vs : List Value) (hl : cs.size = vs.length := by rfl) : Bk (setN w g 0 vs) g t vs.toArray := by
  have h1 := Bk.setN_ vs h 0
  have h2 := putN_get vs cs 0 (by omega)
  have : Go.Proofs.YtkfjnllbjlndlaaDoor.putN cs 0 vs = vs.toArray := by
    apply Array.ext_getElem?
    intro j
    rw [h2.2 j]
    by_cases hj : j < vs.length
    · rw [if_pos (by omega)]; simp
    · rw [if_neg (by omega), Array.getElem?_eq_none (by omega), Array.getElem?_eq_none (by simp; omega)]
  rwa [this] at h1
theorem Bk.farN {g g' : Nat} {t : TypeId} {cs : Array Value} (vs : List Value) : ∀ {w : World} (_ : Bk w g t cs) (i : Nat) (_ : g ≠ g'), Bk (setN w g' i vs) g t cs := by
  induction vs with
  | nil => intro w h i _; exact h
  | cons v vs ih => intro w h i hne; exact ih (h.far (p := ⟨g', i, none⟩) hne v) (i + 1) hne
theorem below_setN {B : Nat} {a : World} {g : Nat} (vs : List Value) : ∀ {w : World} (_ : Below B a w) (i : Nat) (_ : B ≤ g), Below B a (setN w g i vs) := by
  induction vs with
  | nil => intro w h i _; exact h
  | cons v vs ih => intro w h i hg; exact ih (h.setCell (p := ⟨g, i, none⟩) hg v) (i + 1) hg
theorem size_setN {g : Nat} (vs : List Value) : ∀ {w : World} (i : Nat), (setN w g i vs).heap.size = w.heap.size := by
  induction vs with
  | nil => intro w i; rfl
  | cons v vs ih => intro w i; rw [setN, ih]; simp [World.setCell]

/-- Only block g, and what is new, may have turned. -/
def Only (g : Nat) (w w' : World) : Prop := w.grownBy w' (some g)

section
variable {a b c w w' : World} {g : Nat}
theorem Only.refl (g : Nat) (w : World) : Only g w w := World.grownBy.refl w _
theorem Only.trans (h : Only g a b) (k : Only g b c) : Only g a c :=
  ⟨k.os.trans h.os, k.tape.trans h.tape, k.output.trans h.output, Nat.le_trans h.size k.size, fun i hi hn => (k.block i (Nat.lt_of_lt_of_le hi h.size) hn).trans (h.block i hi hn)⟩
theorem Only.drew (h : Only g a w) : Only g a w.drew := ⟨h.os, h.tape, h.output, h.size, h.block⟩
theorem Only.drewN (h : Only g a w) (n : Nat) : Only g a (w.drewN n) := ⟨h.os, h.tape, h.output, h.size, h.block⟩
theorem Only.alloc (h : Only g a w) (o : Obj) : Only g a (w.alloc o) :=
  ⟨h.os, h.tape, h.output, Nat.le_trans h.size (by simp), fun i hi hne => (Below.heap_alloc w o i (Nat.lt_of_lt_of_le hi h.size)).trans (h.block i hi hne)⟩
theorem Only.set (h : Only g a w) {p : Addr} (hp : p.block = g ∨ a.heap.size ≤ p.block) (u : Value) : Only g a (w.setCell p u) :=
  ⟨h.os, h.tape, h.output, by simpa [World.setCell] using h.size, fun i hi hne => (Below.heap_setCell w p u i (by
    rintro rfl
    rcases hp with hp | hp
    · exact hne (by rw [hp])
    · omega)).trans (h.block i hi hne)⟩
theorem Only.setN (vs : List Value) {k : Nat} : ∀ {w : World} (_ : Only g a w) (i : Nat) (_ : k = g ∨ a.heap.size ≤ k), Only g a (setN w k i vs) := by
  induction vs with
  | nil => intro w h i _; exact h
  | cons v vs ih => intro w h i hk; exact ih (h.set (p := ⟨k, i, none⟩) hk v) (i + 1) hk
theorem Only.of_below (h : Below a.heap.size a w) : Only g a w := ⟨h.os, h.tape, h.output, h.size, fun i hi _ => h.block i hi⟩
theorem Only.below {B : Nat} (h : Below B a w) (k : Only g w w') (hg : B ≤ g) (hB : B ≤ w.heap.size) : Below B a w' := Below.grown h k hB (fun i hi => by injection hi with hi; omega)
theorem Only.then_below (h : Only g a b) (k : Below b.heap.size b c) : Only g a c := h.trans (Only.of_below k)
end

theorem below_drewN' {B : Nat} {a w : World} (h : Below B a w) (n : Nat) : Below B a (w.drewN n) := ⟨h.os, h.tape, h.output, h.size, h.block⟩
theorem below_then {B : Nat} {w w1 w2 : World} (h : Below B w w1) (k : Below w1.heap.size w1 w2) (hB : B ≤ w1.heap.size) : Below B w w2 := h.trans (k.mono hB)

theorem block_of_add (a : Addr) (n : Nat) : (a.add n).block = a.block := by unfold Addr.add; split <;> rfl
theorem add_of_add (a : Addr) (i j : Nat) : (a.add i).add j = a.add (i + j) := by
  unfold Addr.add
  by_cases hi : i = 0 <;> by_cases hj : j = 0 <;> simp [hi, hj, Nat.add_assoc]

/-- The slice value '.slice A n c' holds these cells, and lies below block B. -/
def Reads (w : World) (B size : Nat) (A : Option Addr) (n : Nat) (xs : List Value) : Prop :=
  xs.length = n * size ∧ (0 < n → ∃ ad, A = some ad ∧ ad.block < B ∧ ∀ j u, xs[j]? = some u → w.cell? (ad.add j) = some u)

section
variable {w w' : World} {B B' size n : Nat} {A : Option Addr} {xs : List Value}
theorem Reads.nil_ (w : World) (B size : Nat) (A : Option Addr) : Reads w B size A 0 [] := ⟨by simp, fun h => absurd h (by omega)⟩
theorem Reads.at_ {k : Nat} (h : Reads w B 1 A n xs) (hk : k < n) : ∃ ad u, A = some ad ∧ ad.block < B ∧ xs[k]? = some u ∧ w.cell? (ad.add k) = some u := by
  obtain ⟨ad, e, hb, hc⟩ := h.2 (by omega)
  have hl : k < xs.length := by have := h.1; omega
  exact ⟨ad, xs[k], e, hb, List.getElem?_eq_getElem hl, hc k _ (List.getElem?_eq_getElem hl)⟩
theorem Reads.keep (h : Reads w B size A n xs) (hk : ∀ p : Addr, p.block < B → w'.cell? p = w.cell? p) : Reads w' B size A n xs :=
  ⟨h.1, fun hn => by
    obtain ⟨ad, e, hb, hc⟩ := h.2 hn
    exact ⟨ad, e, hb, fun j u hu => (hk _ (by rw [block_of_add]; exact hb)).trans (hc j u hu)⟩⟩
theorem Reads.more (h : Reads w B size A n xs) (hB : B ≤ B') : Reads w B' size A n xs :=
  ⟨h.1, fun hn => by
    obtain ⟨ad, e, hb, hc⟩ := h.2 hn
    exact ⟨ad, e, by omega, hc⟩⟩
theorem Reads.below (h : Reads w B size A n xs) (hb : Below B w w') : Reads w' B size A n xs := h.keep fun _ hp => hb.cell hp
theorem Reads.drew (h : Reads w B size A n xs) : Reads w.drew B size A n xs := h
theorem Reads.drewN (h : Reads w B size A n xs) (k : Nat) : Reads (w.drewN k) B size A n xs := h
theorem Reads.alloc (h : Reads w B size A n xs) (hB : B ≤ w.heap.size) (o : Obj) : Reads (w.alloc o) B size A n xs := h.keep fun p hp => World.cell?_alloc_lt w o p (by omega)
theorem Reads.only {g : Nat} (h : Reads w B size A n xs) (k : Only g w w') (hB : B ≤ w.heap.size) (hg : B ≤ g) : Reads w' B size A n xs :=
  h.keep fun p hp => World.cell?_of_block (k.block p.block (by omega) (fun e => by injection e with e; omega))
theorem Reads.cut (h : Reads w B size A n xs) {k cap : Nat} (hk : k ≤ n) (hc : n ≤ cap) :
    Reads w B size (if cap = k then A else A.map (·.add (k * size))) (n - k) (xs.drop (k * size)) := by
  refine ⟨by rw [List.length_drop, h.1, Nat.sub_mul], fun hn => ?_⟩
  obtain ⟨ad, rfl, hb, hcell⟩ := h.2 (by omega)
  rw [if_neg (by omega)]
  refine ⟨ad.add (k * size), rfl, by rw [block_of_add]; exact hb, fun j u hu => ?_⟩
  rw [add_of_add]
  exact hcell _ u (by rw [← hu, List.getElem?_drop])
theorem Reads.take_ (h : Reads w B size A n xs) {k : Nat} (hk : k ≤ n) : Reads w B size A k (xs.take (k * size)) := by
  refine ⟨?_, fun hn => ?_⟩
  · rw [List.length_take, h.1]
    have := Nat.mul_le_mul_right size hk
    omega
  · obtain ⟨ad, rfl, hb, hcell⟩ := h.2 (by omega)
    refine ⟨ad, rfl, hb, fun j u hu => hcell j u ?_⟩
    rw [List.getElem?_take] at hu
    split at hu
    · exact hu
    · cases hu
theorem Reads.of_own {base : Nat} {e : TypeId} {c : Nat} (h : w.ownsRow base e size (.slice A n c) n xs) : Reads w w.heap.size size A n xs := by
  refine ⟨h.1, fun hn => ?_⟩
  obtain ⟨g, cap, hv, _, hlt⟩ := h.form hn
  have hA : A = some ⟨g, 0, none⟩ := by injection hv
  subst hA
  exact ⟨_, rfl, hlt, h.cells (g := g) rfl⟩
end

/-- The bytes of a list as cells. -/
def bcells (bs : List UInt8) : List Value := bs.map fun b => .int .u8 b.toNat
theorem bcells_length (bs : List UInt8) : (bcells bs).length = bs.length := by simp [bcells]
theorem bcells_get (bs : List UInt8) (k : Nat) (hk : k < bs.length) : (bcells bs)[k]? = some (.int .u8 (bs[k]).toNat) := by simp [bcells, List.getElem?_eq_getElem hk]
theorem bcells_append (a b : List UInt8) : bcells (a ++ b) = bcells a ++ bcells b := by simp [bcells]

/-- '.slice A n c' reads as these bytes. -/
def RdB (w : World) (B : Nat) (A : Option Addr) (bs : List UInt8) : Prop := Reads w B 1 A bs.length (bcells bs)
theorem RdB.at_ {w : World} {B : Nat} {A : Option Addr} {bs : List UInt8} (h : RdB w B A bs) {k : Nat} (hk : k < bs.length) : ∃ ad, A = some ad ∧ ad.block < B ∧ w.cell? (ad.add k) = some (.int .u8 (bs[k]).toNat) := by
  obtain ⟨ad, u, e, hb, hx, hc⟩ := Reads.at_ h hk
  rw [bcells_get bs k hk] at hx
  injection hx with hx
  subst hx
  exact ⟨ad, e, hb, hc⟩

/-- 'xs[l:h]' of bytes that are read: which slice it gives, and what that reads as. The address is a letter. -/
theorem cut_lh {P : Program} (t e : TypeId) {i : TypeInfo} (ht : P.underlying t = some (.slice e)) (hi : P.info? e = some i) (hsz : i.size = 1) (kl kh : IntKind)
    (A : Option Addr) (bs : List UInt8) (c lo hi' : Nat) (l h : Int) (hl : l = (lo : Int)) (hh : h = (hi' : Int)) (h1 : lo ≤ hi') (h2 : hi' ≤ bs.length) (hc : bs.length ≤ c) :
    ∃ (A' : Option Addr) (c' : Nat), (∀ W : World, (Instr.slice t (.slice A bs.length c) (some (.int kl l)) (some (.int kh h)) none).run P W = .ok (.slice A' ((bs.take hi').drop lo).length c') W) ∧ ((bs.take hi').drop lo).length ≤ c' ∧
      ∀ (w : World) (B : Nat), RdB w B A bs → RdB w B A' ((bs.take hi').drop lo) := by
  subst hl hh
  have hel : P.elem t = e := by simp [Program.elem, ht]
  have hu : P.underlying t = some (.slice (P.elem t)) := by rw [hel]; exact ht
  have hlen : ((bs.take hi').drop lo).length = hi' - lo := by rw [List.length_drop, List.length_take, Nat.min_eq_left h2]
  refine ⟨if c = lo then A else A.map (·.add (lo * 1)), c - lo, fun W => ?_, by omega, fun w B hr => ?_⟩
  · rw [run_slice_lh W t A bs.length c hu kl kh (lo : Int) (hi' : Int) (by omega) (by omega) (by omega), hel, hlen]
    simp [sizeOf, typeInfo, hi, hsz, sliced, Result.andThen]
  · have h3 := Reads.take_ hr h2
    have h4 := Reads.cut (k := lo) (cap := c) h3 h1 (by omega)
    unfold RdB
    rw [hlen]
    have hb : bcells ((bs.take hi').drop lo) = ((bcells bs).take (hi' * 1)).drop (lo * 1) := by simp [bcells, List.map_drop, List.map_take]
    rw [hb]
    exact h4
theorem cut_l {P : Program} (t e : TypeId) {i : TypeInfo} (ht : P.underlying t = some (.slice e)) (hi : P.info? e = some i) (hsz : i.size = 1) (kl : IntKind)
    (A : Option Addr) (bs : List UInt8) (c lo : Nat) (l : Int) (hl : l = (lo : Int)) (h1 : lo ≤ bs.length) (hc : bs.length ≤ c) :
    ∃ (A' : Option Addr) (c' : Nat), (∀ W : World, (Instr.slice t (.slice A bs.length c) (some (.int kl l)) none none).run P W = .ok (.slice A' (bs.drop lo).length c') W) ∧ (bs.drop lo).length ≤ c' ∧
      ∀ (w : World) (B : Nat), RdB w B A bs → RdB w B A' (bs.drop lo) := by
  subst hl
  have hel : P.elem t = e := by simp [Program.elem, ht]
  have hu : P.underlying t = some (.slice (P.elem t)) := by rw [hel]; exact ht
  have hlen : (bs.drop lo).length = bs.length - lo := List.length_drop
  refine ⟨if c = lo then A else A.map (·.add (lo * 1)), c - lo, fun W => ?_, by omega, fun w B hr => ?_⟩
  · rw [run_slice_l W t A bs.length c hu kl (lo : Int) (by omega) (by omega), hel, hlen]
    simp [sizeOf, typeInfo, hi, hsz, sliced, Result.andThen]
  · have h4 := Reads.cut (k := lo) (cap := c) hr h1 hc
    unfold RdB
    rw [hlen]
    have hb : bcells (bs.drop lo) = (bcells bs).drop (lo * 1) := by simp [bcells, List.map_drop]
    rw [hb]
    exact h4

/-- 'string(b)'. -/
theorem RdB.string_ {P : Program} {w : World} {B : Nat} {A : Option Addr} {bs : List UInt8} (h : RdB w B A bs) (src dst e : TypeId) (hs : P.underlying src = some (.slice e)) (he : P.underlying e = some (.int .u8)) (hd : P.underlying dst = some .string) (c : Nat) :
    (convert src dst (.slice A bs.length c)).run P w = .ok (.string ⟨bs.toArray⟩) w := by
  rcases A with _ | a
  · have hz : bs.length = 0 := by
      rcases Nat.eq_zero_or_pos bs.length with h0 | h0
      · exact h0
      · obtain ⟨ad, e, _⟩ := h.2 h0
        cases e
    obtain rfl : bs = [] := List.eq_nil_of_length_eq_zero hz
    show (convert src dst (.slice none 0 c)).run P w = _
    rw [run_convert_bytes_string w src dst e _ 0 c hs he hd]
    simp [Conv.bytesToString]
    rfl
  · refine run_convert_bytes_back w src dst e a c bs hs he hd fun j hj => ?_
    obtain ⟨ad, e, _, hc⟩ := h.at_ hj
    injection e with e
    subst e
    exact hc
theorem own_slice {w : World} {base n : Nat} {e : TypeId} {size : Nat} {v : Value} {xs : List Value} (h : w.ownsRow base e size v n xs) : ∃ A c, v = .slice A n c := by
  rcases h.2 with ⟨rfl, rfl⟩ | ⟨g, cap, cur, rfl, _⟩
  · exact ⟨none, 0, rfl⟩
  · exact ⟨_, cap, rfl⟩

theorem take_snoc (s : ByteArray) (k : Nat) (h : k < s.size) : s.data.toList.take (k + 1) = s.data.toList.take k ++ [s[k]] := by
  rw [List.take_succ_eq_append_getElem (by simpa using h)]; rfl
theorem take_snocL (bs : List UInt8) (k : Nat) (h : k < bs.length) : bs.take (k + 1) = bs.take k ++ [bs[k]] := List.take_succ_eq_append_getElem h
theorem ba_app (a b : List UInt8) : (⟨a.toArray⟩ : ByteArray) ++ ⟨b.toArray⟩ = ⟨(a ++ b).toArray⟩ := by
  apply ByteArray.ext
  simp
theorem ba_eta (s : ByteArray) : (⟨s.data.toList.toArray⟩ : ByteArray) = s := by cases s; rfl
theorem ba_toList (s : ByteArray) : s.toList = s.data.toList := ByteArray.toList_eq s
theorem ba_size (s : ByteArray) : s.data.toList.length = s.size := by rw [Array.length_toList]; rfl
theorem ret_int {k : IntKind} {a b : Int} (h : a = b) : Ending.returned (.int k a) = .returned (.int k b) := by rw [h]
theorem ret_val {a b : Value} (h : a = b) : Ending.returned a = .returned b := by rw [h]
theorem u8_lit (c : UInt8) (n : Nat) (_ : n < 256) (h : c ≠ UInt8.ofNat n) : (((n : Nat) : Int) == (c.toNat : Int)) = false := by
  rw [beq_eq_false_iff_ne]
  intro e
  have : c.toNat = n := by omega
  exact h (by rw [← this, UInt8.ofNat_toNat])
theorem u8_lit' (c : UInt8) (n : Nat) (hn : n < 256) (h : c ≠ UInt8.ofNat n) : ((c.toNat : Int) == ((n : Nat) : Int)) = false := by
  rw [Bool.eq_false_iff]
  intro e
  have := u8_lit c n hn h
  rw [beq_iff_eq] at e
  rw [e] at this
  simp at this
theorem u8_of {c : UInt8} {n : Nat} (h : (c.toNat : Int) = (n : Int)) : c = UInt8.ofNat n := by
  have : c.toNat = n := by omega
  rw [← this, UInt8.ofNat_toNat]
end Go.Proofs.YtkfjnllbjlndlaaDoor
