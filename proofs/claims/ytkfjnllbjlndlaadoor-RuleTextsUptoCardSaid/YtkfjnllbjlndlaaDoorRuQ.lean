/- A rule's line and rules' text read back, in plain Lean: both ways. -/
import Derived.Test.YtkfjnllbjlndlaaDoorRuT
import Derived.Test.YtkfjnllbjlndlaaDoorRuP
import Derived.Test.YtkfjnllbjlndlaaDoorLineM
import Derived.Test.YtkfjnllbjlndlaaDoorLnM
namespace Go.Proofs.YtkfjnllbjlndlaaDoor

def LineR.ru (r : LineR) : Ru := ⟨r.id, r.f, r.p⟩
def Dgt (c : UInt8) : Prop := 48 ≤ c.toNat ∧ c.toNat ≤ 57
def dfold (n : Int) (l : List UInt8) : Int := l.foldl (fun n c => 10 * n + ((c.toNat : Int) - 48)) n
theorem dfold_cons (n : Int) (c : UInt8) (l : List UInt8) : dfold n (c :: l) = dfold (10 * n + ((c.toNat : Int) - 48)) l := rfl
theorem dfold_ge (l : List UInt8) : ∀ n : Int, 0 ≤ n → (∀ c ∈ l, Dgt c) → n ≤ dfold n l := by
  induction l with
  | nil => intro n _ _; exact Int.le_refl _
  | cons c l ih =>
    intro n h0 h
    have hc : 48 ≤ c.toNat ∧ c.toNat ≤ 57 := h c (by simp)
    have := ih (10 * n + ((c.toNat : Int) - 48)) (by omega) (fun x hx => h x (by simp [hx]))
    rw [dfold_cons]
    omega
theorem dfold_nat (l : List UInt8) : ∀ n : Nat, (∀ c ∈ l, Dgt c) → dfold n l = ((l.foldl (fun n c => 10 * n + (c.toNat - 48)) n : Nat) : Int) := by
  induction l with
  | nil => intro n _; rfl
  | cons c l ih =>
    intro n h
    have hc : 48 ≤ c.toNat ∧ c.toNat ≤ 57 := h c (by simp)
    have := ih (10 * n + (c.toNat - 48)) (fun x hx => h x (by simp [hx]))
    rw [dfold_cons, List.foldl_cons, ← this]
    congr 1
    omega
theorem dfold_dval (l : List UInt8) (h : ∀ c ∈ l, Dgt c) : dfold 0 l = (dval l : Int) := dfold_nat l 0 h
theorem idM_run (ds rest : List UInt8) : ∀ n at_ : Int, 0 ≤ n → 0 ≤ at_ → (∀ c ∈ ds, Dgt c) → (at_ = 0 → ∃ c cs, ds = c :: cs ∧ c ≠ 48) → dfold n ds ≤ 2147483648 →
    idM (ds ++ 47 :: rest) n at_ = (dfold n ds, at_ + ds.length, true) := by
  induction ds with
  | nil =>
    intro n at_ h0 h1 _ h2 _
    have : at_ ≠ 0 := fun e => by obtain ⟨c, cs, h, _⟩ := h2 e; cases h
    rw [List.nil_append, idM, if_pos ⟨by decide, by omega⟩]
    simp [dfold]
  | cons c ds ih =>
    intro n at_ h0 h1 h2 h3 h4
    have hc : 48 ≤ c.toNat ∧ c.toNat ≤ 57 := h2 c (by simp)
    have hd : ∀ c ∈ ds, Dgt c := fun x hx => h2 x (by simp [hx])
    rw [dfold_cons] at h4 ⊢
    have h5 := dfold_ge ds (10 * n + ((c.toNat : Int) - 48)) (by omega) hd
    have h6 : at_ = 0 → (c.toNat : Int) ≠ 48 := fun e => by
      obtain ⟨c', cs', he, hne⟩ := h3 e
      injection he with he _
      subst he
      intro e2
      exact hne (UInt8.toNat_inj.1 (by show c.toNat = 48; omega))
    rw [List.cons_append, idM, if_neg (by omega), if_neg (by omega), ih _ _ (by omega) (by omega) hd (fun e => by omega) h4]
    simp only [List.length_cons, Prod.mk.injEq, and_true, true_and]
    omega
theorem idM_inv (bs : List UInt8) : ∀ n at_ : Int, 0 ≤ n → n ≤ 2147483648 → 0 ≤ at_ → (idM bs n at_).2.2 = true →
    ∃ ds rest, bs = ds ++ 47 :: rest ∧ (∀ c ∈ ds, Dgt c) ∧ (at_ = 0 → ∃ c cs, ds = c :: cs ∧ c ≠ 48) ∧ idM bs n at_ = (dfold n ds, at_ + ds.length, true) ∧ dfold n ds ≤ 2147483648 := by
  induction bs with
  | nil => intro n at_ _ _ _ h; simp [idM] at h
  | cons c cs ih =>
    intro n at_ h0 hn h1 h
    unfold idM at h ⊢
    split at h
    · rename_i h2
      rw [if_pos h2]
      refine ⟨[], cs, ?_, fun c hc => by simp at hc, fun e => by omega, by simp [dfold], hn⟩
      have : c = 47 := UInt8.toNat_inj.1 (by show c.toNat = 47; omega)
      rw [this]
      rfl
    · rename_i h2
      rw [if_neg h2]
      split at h
      · cases h
      · rename_i h3
        rw [if_neg h3]
        obtain ⟨ds, rest, e1, e2, e3, e4, e5⟩ := ih _ _ (by omega) (by omega) (by omega) h
        refine ⟨c :: ds, rest, by rw [e1]; rfl, ?_, ?_, ?_, ?_⟩
        · intro x hx
          rcases List.mem_cons.1 hx with rfl | hx
          · exact ⟨by omega, by omega⟩
          · exact e2 x hx
        · intro e
          refine ⟨c, ds, rfl, fun e6 => ?_⟩
          subst e6
          exact h3 (.inr (.inr (.inl ⟨e, by decide⟩)))
        · rw [e4, dfold_cons]
          simp only [List.length_cons, Prod.mk.injEq, and_true, true_and]
          omega
        · rw [dfold_cons]; exact e5
theorem snoc_of {α : Type} {l : List α} (h : l ≠ []) : ∃ xs x, l = xs ++ [x] := ⟨l.dropLast, l.getLast h, (List.dropLast_concat_getLast h).symm⟩
theorem dval_snoc (xs : List UInt8) (c : UInt8) : dval (xs ++ [c]) = 10 * dval xs + (c.toNat - 48) := by simp [dval]
theorem dec_of (m : Nat) : ∀ ds : List UInt8, ds.length = m → (∀ c ∈ ds, Dgt c) → (∃ c cs, ds = c :: cs ∧ c ≠ 48) → Lib.decDigits (dval ds) = ds ∧ 1 ≤ dval ds := by
  induction m with
  | zero => intro ds h _ h2; obtain ⟨c, cs, rfl, _⟩ := h2; simp at h
  | succ m ih =>
    intro ds hl h h2
    obtain ⟨c0, cs0, he, hne⟩ := h2
    obtain ⟨xs, c, rfl⟩ := snoc_of (l := ds) (by rw [he]; simp)
    have hc : 48 ≤ c.toNat ∧ c.toNat ≤ 57 := h c (by simp)
    have hcc : UInt8.ofNat (48 + (c.toNat - 48)) = c := UInt8.toNat_inj.1 (by rw [u8_digit _ (by omega)]; omega)
    rw [dval_snoc]
    cases xs with
    | nil =>
      simp only [List.nil_append, List.cons.injEq] at he
      obtain ⟨rfl, _⟩ := he
      have : c.toNat ≠ 48 := fun e => hne (UInt8.toNat_inj.1 e)
      have hz : dval ([] : List UInt8) = 0 := rfl
      rw [hz, Lib.decDigits, dif_pos (by omega)]
      refine ⟨?_, by omega⟩
      rw [show 10 * 0 + (c.toNat - 48) = c.toNat - 48 by omega, hcc]
      rfl
    | cons x xs =>
      simp only [List.cons_append, List.cons.injEq] at he
      obtain ⟨h1, h3⟩ := ih (x :: xs) (by simp at hl ⊢; omega) (fun y hy => h y (by simp at hy ⊢; rcases hy with hy | hy <;> simp [hy])) ⟨x, xs, rfl, he.1 ▸ hne⟩
      rw [Lib.decDigits, dif_neg (by omega)]
      refine ⟨?_, by omega⟩
      rw [show (10 * dval (x :: xs) + (c.toNat - 48)) / 10 = dval (x :: xs) by omega, show (10 * dval (x :: xs) + (c.toNat - 48)) % 10 = c.toNat - 48 by omega, h1, hcc]
theorem dec_head (u : Nat) : 1 ≤ u → ∃ c cs, Lib.decDigits u = c :: cs ∧ c ≠ 48 := by
  induction u using Nat.strongRecOn with
  | ind u ih =>
    intro h
    rw [Lib.decDigits]
    split
    · rename_i h1
      refine ⟨_, _, rfl, fun e => ?_⟩
      have := u8_digit u h1
      rw [e] at this
      have h2 : (48 : UInt8).toNat = 48 := rfl
      omega
    · obtain ⟨c, cs, e, hne⟩ := ih (u / 10) (by omega) (by omega)
      rw [e]
      exact ⟨c, _, rfl, hne⟩
theorem itoa_pos' (n : Int) (h : 1 ≤ n) : Lib.itoa n = Lib.decDigits n.toNat := by unfold Lib.itoa; rw [if_neg (by omega)]
theorem flM_run (f : Fl.F5) (p : List UInt8) (at_ : Int) : flM (Fl.lets f ++ 47 :: p) 0 Fl.zero at_ = (some (f, p), at_ + (Fl.lets f).length) := by
  obtain ⟨a, b, c, d, e⟩ := f
  cases a <;> cases b <;> cases c <;> cases d <;> cases e <;> simp [Fl.lets, Fl.letters, flM, Fl.ix, Fl.setIx, Fl.zero] <;> omega
theorem flM_inv (cs : List UInt8) : ∀ (j : Int) (f : Fl.F5) (at_ : Int) (g : Fl.F5) (p : List UInt8) (m : Int), 0 ≤ j → Fl.Low j f → flM cs j f at_ = (some (g, p), m) →
    ∃ ls, cs = ls ++ 47 :: p ∧ Fl.lets g = Fl.lets f ++ ls ∧ m = at_ + ls.length := by
  induction cs with
  | nil => intro j f at_ g p m _ _ h; simp [flM] at h
  | cons c cs ih =>
    intro j f at_ g p m h0 hl h
    unfold flM at h
    split at h
    · rename_i hc
      simp only [Prod.mk.injEq, Option.some.injEq] at h
      obtain ⟨⟨rfl, rfl⟩, rfl⟩ := h
      exact ⟨[], by rw [hc]; rfl, by simp, by simp⟩
    · split at h
      · rename_i hk
        obtain ⟨h1, h2⟩ := Fl.lets_step c j f h0 hk hl
        obtain ⟨ls, e1, e2, e3⟩ := ih _ _ _ _ _ _ (by omega) h2 h
        refine ⟨c :: ls, by rw [e1]; rfl, by rw [e2, h1]; simp, by rw [e3]; simp only [List.length_cons]; omega⟩
      · simp at h
theorem patM_ok {id : Int} {f : Fl.F5} {p : List UInt8} {a b : Int} (h : (patM id f p a b).e = 0) : patM id f p a b = ⟨id, f, p, b, 0⟩ ∧ Lib.indexByte p 10 < 0 ∧ p.length ≤ 1024 := by
  unfold patM at h ⊢
  split at h
  · simp [LineR.bad] at h
  · rename_i h1
    split at h
    · simp [LineR.bad] at h
    · rename_i h2
      rw [if_neg h1, if_neg h2]
      exact ⟨rfl, by omega, by omega⟩
theorem patM_yes {id : Int} {f : Fl.F5} {p : List UInt8} {a b : Int} (h1 : Lib.indexByte p 10 < 0) (h2 : p.length ≤ 1024) : patM id f p a b = ⟨id, f, p, b, 0⟩ := by
  unfold patM
  rw [if_neg (by omega), if_neg (by omega)]

/-- The line of a rule is read as it. -/
theorem lineM_line {r : Ru} (h : r.chk = 0) : lineM r.line = ⟨r.id, r.f, r.p, r.line.length, 0⟩ := by
  obtain ⟨h1, h2, h3, h4⟩ := chk_ok h
  have e0 : r.line = Lib.decDigits r.id.toNat ++ 47 :: (Fl.lets r.f ++ 47 :: r.p) := by
    unfold Ru.line
    rw [itoa_pos' _ h1]
    simp
  have hd := dec_chars r.id.toNat
  have hv : dfold 0 (Lib.decDigits r.id.toNat) = r.id := by
    rw [dfold_dval _ hd, dval_dec]; omega
  have e1 : idM r.line 0 0 = (r.id, ((Lib.decDigits r.id.toNat).length : Int), true) := by
    rw [e0, idM_run _ _ 0 0 (by omega) (by omega) hd (fun _ => dec_head _ (by omega)) (by rw [hv]; exact h2), hv]
    simp
  unfold lineM
  rw [e1]
  simp only [if_true]
  have e2 : r.line.drop ((((Lib.decDigits r.id.toNat).length : Int)).toNat + 1) = Fl.lets r.f ++ 47 :: r.p := by
    rw [e0, show (((Lib.decDigits r.id.toNat).length : Int)).toNat = (Lib.decDigits r.id.toNat).length by omega, List.drop_append]
    simp
  rw [e2, flM_run]
  simp only [finM]
  exact patM_yes h3 h4
/-- What is read as a rule is the line of it. -/
theorem lineM_inv {b : List UInt8} (h : (lineM b).e = 0) : (lineM b).ru.chk = 0 ∧ (lineM b).ru.line = b := by
  unfold lineM at h ⊢
  by_cases h0 : (idM b 0 0).2.2 = true
  · rw [if_pos h0] at h ⊢
    obtain ⟨ds, rest, e1, e2, e3, e4, e5⟩ := idM_inv b 0 0 (by omega) (by omega) (by omega) h0
    rw [e4] at h ⊢
    simp only at h ⊢
    have e6 : b.drop ((0 + (ds.length : Int)).toNat + 1) = rest := by
      rw [e1, show (0 + (ds.length : Int)).toNat = ds.length by omega, List.drop_append]
      simp
    rw [e6] at h ⊢
    rcases hf : flM rest 0 Fl.zero (0 + (ds.length : Int) + 1) with ⟨_ | ⟨g, p⟩, m⟩
    · rw [hf] at h
      simp [finM, LineR.bad] at h
    · rw [hf] at h
      simp only [finM] at h ⊢
      obtain ⟨ls, f1, f2, f3⟩ := flM_inv _ _ _ _ _ _ _ (by omega) Fl.low_zero hf
      obtain ⟨g1, g2, g3⟩ := patM_ok h
      obtain ⟨k1, k2⟩ := dec_of _ ds rfl e2 (e3 rfl)
      rw [g1]
      have hv := dfold_dval ds e2
      simp only [LineR.ru]
      refine ⟨?_, ?_⟩
      · unfold Ru.chk
        rw [if_neg (by simp only; omega), if_neg (by simp only; omega)]
      · unfold Ru.line
        simp only
        have hl : Fl.lets g = ls := by simpa [Fl.lets, Fl.letters, Fl.zero] using f2
        rw [itoa_pos' _ (by omega), hv, Int.toNat_natCast, k1, hl, e1, f1]
        simp
  · rw [if_neg h0] at h
    simp [LineR.bad] at h

/-- The rules of some lines. -/
def parseGo : List (List UInt8) → Int → List Ru → Int → List Ru × Int × Int
  | [], _, out, _ => (out, 0, 0)
  | b :: bs, whole, out, n =>
    if 1024 ≤ out.length then ([], n, 3)
    else if (lineM b).e ≠ 0 then ([], n, (lineM b).e)
    else if whole - ((b.length : Int) + 1) < 0 then ([], n, 201)
    else if (lineM b).id ∈ out.map (·.id) then ([], n, 5)
    else parseGo bs (whole - ((b.length : Int) + 1)) (out ++ [(lineM b).ru]) (n + 1)
def parseM (p : List UInt8) : List Ru × Int × Int := parseGo (linesM p) p.length [] 1
def glue (ls : List (List UInt8)) : List UInt8 := ls.flatMap fun l => l ++ [10]

theorem itoa_no10 (u : Nat) : ∀ x ∈ Lib.decDigits u, x ≠ 10 := by
  intro c hc e
  have := dec_chars u c hc
  subst e
  exact absurd this (by decide)
theorem lets_no10 (f : Fl.F5) : ∀ c ∈ Fl.lets f, c ≠ 10 := by
  obtain ⟨a, b, c, d, e⟩ := f
  cases a <;> cases b <;> cases c <;> cases d <;> cases e <;> decide
theorem line_no10 {r : Ru} (h : r.chk = 0) : ∀ x ∈ r.line, x ≠ 10 := by
  obtain ⟨h1, h2, h3, h4⟩ := chk_ok h
  intro x hx e
  subst e
  unfold Ru.line at hx
  rw [itoa_pos' _ h1] at hx
  simp only [List.mem_append, List.mem_cons, List.not_mem_nil, or_false] at hx
  rcases hx with (((hx | hx) | hx) | hx) | hx
  · exact itoa_no10 _ _ hx rfl
  · exact absurd hx (by decide)
  · exact lets_no10 _ _ hx rfl
  · exact absurd hx (by decide)
  · obtain ⟨k, hk, hke⟩ := List.mem_iff_getElem.1 hx
    exact Lib.indexByte_none (show Lib.indexByte r.p 10 = -1 by have := Lib.indexByte_ge r.p 10; omega) k (by rw [List.getElem?_eq_getElem hk, hke])
theorem lines_glue (ls : List (List UInt8)) (h : ∀ l ∈ ls, ∀ x ∈ l, x ≠ 10) : linesM (glue ls) = ls := by
  induction ls with
  | nil => rfl
  | cons l ls ih =>
    have e : glue (l :: ls) = l ++ 10 :: glue ls := by simp [glue]
    obtain ⟨h1, h2⟩ := split_app l (glue ls) (h l (by simp))
    rw [e, linesM_cons (by simp; omega), h1, h2, ih (fun x hx => h x (by simp [hx]))]
theorem textM_glue (l : List Ru) : textM l = glue (l.map (·.line)) := by
  unfold textM glue
  rw [List.flatMap_map]
theorem glue_lines (n : Nat) : ∀ t : List UInt8, t.length = n → glue (linesM t) = t ∨ glue (linesM t) = t ++ [10] := by
  induction n using Nat.strongRecOn with
  | ind n ih =>
    intro t hn
    cases t with
    | nil => exact .inl rfl
    | cons c cs =>
      have ht := tailL_le (c :: cs)
      simp only [List.length_cons] at hn ht
      rw [linesM_cons (by simp)]
      have hg : glue (headL (c :: cs) :: linesM (tailL (c :: cs))) = headL (c :: cs) ++ 10 :: glue (linesM (tailL (c :: cs))) := by simp [glue]
      rw [hg]
      rcases split_index (c :: cs) with ⟨i, h1, h2, h3, h4⟩ | ⟨h1, h3, h4⟩
      · have h5 : (c :: cs) = headL (c :: cs) ++ 10 :: tailL (c :: cs) := by
          have := drop_split (c :: cs) 0 i (Nat.zero_le _) (Lib.indexByte_some h1).1
          rw [List.drop_zero, List.drop_zero] at this
          rw [h3, h4]; exact this
        rcases ih _ (by omega) (tailL (c :: cs)) rfl with h6 | h6
        · left; rw [h6, ← h5]
        · right
          rw [h6]
          conv => rhs; rw [h5]
          simp
      · right
        rw [h3, h4, linesM_nil]
        rfl
theorem parseGo_text (ls : List Ru) : ∀ (whole : Int) (out : List Ru) (n : Int), whole = ((glue (ls.map (·.line))).length : Int) → out.length + ls.length ≤ 1024 → (∀ r ∈ ls, r.chk = 0) →
    (∀ k, (chkGo ls (out.map (·.id)) k).2 = 0) → parseGo (ls.map (·.line)) whole out n = (out ++ ls, 0, 0) := by
  induction ls with
  | nil => intro whole out n _ _ _ _; simp [parseGo]
  | cons r ls ih =>
    intro whole out n hw hl hc hk
    have h0 := hc r (by simp)
    have hL := lineM_line h0
    simp only [List.length_cons] at hl
    have hk0 := hk 0
    unfold chkGo at hk0
    rw [if_neg (by simp [h0])] at hk0
    have hni : ¬ r.id ∈ out.map (·.id) := fun h => by rw [if_pos h] at hk0; simp at hk0
    have hgl : ((glue ((r :: ls).map (·.line))).length : Int) = (r.line.length : Int) + 1 + ((glue (ls.map (·.line))).length : Int) := by simp [glue]; omega
    rw [List.map_cons, parseGo, if_neg (by omega), hL, if_neg (by simp), if_neg (by omega), if_neg hni]
    rw [ih _ _ _ (by omega) (by simp; omega) (fun x hx => hc x (by simp [hx])) (fun k => ?_)]
    · simp [LineR.ru]
    · have := hk (k - 1)
      unfold chkGo at this
      rw [if_neg (by simp [h0]), if_neg hni] at this
      simpa [LineR.ru] using this
theorem chkGo_any (ls : List Ru) : ∀ (seen : List Int) (k j : Int), (chkGo ls seen k).2 = (chkGo ls seen j).2 := by
  induction ls with
  | nil => intro seen k j; rfl
  | cons r ls ih =>
    intro seen k j
    unfold chkGo
    split
    · rfl
    · split
      · rfl
      · exact ih _ _ _
/-- The text of rules is read as them. -/
theorem parseM_text (l : List Ru) (h : (chkAll l).2 = 0) : parseM (textM l) = (l, 0, 0) := by
  obtain ⟨h1, h2⟩ := chkAll_ok h
  unfold parseM
  rw [textM_glue, lines_glue _ (fun x hx => by
    obtain ⟨r, hr, rfl⟩ := List.mem_map.1 hx
    exact line_no10 (h2 r hr)), parseGo_text l _ [] 1 rfl (by simpa using h1) h2 (fun k => ?_)]
  · rfl
  · unfold chkAll at h
    rw [if_neg (by omega)] at h
    rw [List.map_nil, chkGo_any l [] k 0]
    exact h
theorem parseGo_inv (ls : List (List UInt8)) : ∀ (whole : Int) (out : List Ru) (n : Int), 0 ≤ whole → out.length ≤ 1024 → (parseGo ls whole out n).2.2 = 0 →
    ∃ rs, (parseGo ls whole out n).1 = out ++ rs ∧ ls = rs.map (·.line) ∧ (∀ r ∈ rs, r.chk = 0) ∧ (∀ k, (chkGo rs (out.map (·.id)) k).2 = 0) ∧ ((glue ls).length : Int) ≤ whole ∧ (out ++ rs).length ≤ 1024 := by
  induction ls with
  | nil => intro whole out n h0 hl _; exact ⟨[], by simp [parseGo], rfl, fun r hr => by simp at hr, fun k => rfl, by simpa [glue] using h0, by simpa using hl⟩
  | cons b bs ih =>
    intro whole out n h0 hl h
    unfold parseGo at h ⊢
    split at h
    · simp at h
    · rename_i h1
      rw [if_neg h1]
      split at h
      · rename_i h2; exact absurd h h2
      · rename_i h2
        rw [if_neg h2]
        split at h
        · simp at h
        · rename_i h3
          rw [if_neg h3]
          split at h
          · simp at h
          · rename_i h4
            rw [if_neg h4]
            have h2' : (lineM b).e = 0 := Classical.byContradiction h2
            obtain ⟨q1, q2⟩ := lineM_inv h2'
            obtain ⟨rs, e1, e2, e3, e4, e5, e6⟩ := ih _ _ _ (by omega) (by simp; omega) h
            refine ⟨(lineM b).ru :: rs, by rw [e1]; simp, by rw [List.map_cons, q2, ← e2], ?_, ?_, ?_, by simpa using e6⟩
            · intro r hr
              rcases List.mem_cons.1 hr with rfl | hr
              · exact q1
              · exact e3 r hr
            · intro k
              unfold chkGo
              rw [if_neg (by simp [q1]), if_neg (by simpa [LineR.ru] using h4)]
              have := e4 (k + 1)
              simpa [LineR.ru] using this
            · have : ((glue (b :: bs)).length : Int) = (b.length : Int) + 1 + ((glue bs).length : Int) := by simp [glue]; omega
              omega
/-- What is read as rules is the text of them. -/
theorem parseM_inv (t : List UInt8) (h : (parseM t).2.2 = 0) : (chkAll (parseM t).1).2 = 0 ∧ textM (parseM t).1 = t := by
  unfold parseM at h ⊢
  obtain ⟨rs, e1, e2, e3, e4, e5, e6⟩ := parseGo_inv _ _ [] 1 (by omega) (by simp) h
  rw [e1]
  simp only [List.nil_append] at e6 ⊢
  refine ⟨?_, ?_⟩
  · unfold chkAll
    rw [if_neg (by omega)]
    exact e4 0
  · rw [textM_glue, ← e2]
    rcases glue_lines _ t rfl with h1 | h1
    · exact h1
    · rw [h1] at e5
      simp at e5
      omega
end Go.Proofs.YtkfjnllbjlndlaaDoor
