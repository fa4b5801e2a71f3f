/-
  FnExactAppendDataSaid is proved: for every input FnExactAppendData returns true, and each argument reads afterwards as it read before; no conditions. Part 2 of 25.
-/
import Derived.Test.YtlaijbkonapdbaaGreatA01
import Derived.Test.YtlaijbkonapdbaaGreatProg
import Derived.WalkKit
import Derived.Handy
import Derived.WalkSpells
import Derived.WalkLawsBesides
import Derived.BigQuiet
import Derived.Deep.QuietTactic
import Derived.Deep.RegionHeld3
import Derived.Lib.Hide
import Derived.Laws.OwnMore
import Derived.Deep.AppendLies
import Derived.Deep.Draws
import Derived.Lib.QuietBelow

set_option linter.all false

namespace M

/-- the different words, those of the literals first, each with the least code that stands for it -/
abbrev WL := List (Bytes × Nat)
def lits (c : Nat) : WL := (List.range c).map fun b => ([UInt8.ofNat b], b)
def inL (L : WL) (w : Bytes) : Prop := ∃ i, ∃ h : i < L.length, (L[i]).1 = w
def pos (L : WL) (w : Bytes) : Nat := L.findIdx fun x => decide (x.1 = w)
def addL (L : WL) (w : Bytes) (code : Nat) : WL := if pos L w < L.length then L else L ++ [(w, code)]
def LN (c : Nat) (ws : List Bytes) : Nat → WL
  | 0 => lits c
  | n + 1 => addL (LN c ws n) (ws.getD n []) (c + 2 + n)
def LL (c : Nat) (ps : List (Nat × Nat)) : WL := LN c (words c ps) ps.length

theorem pos_lt_iff (L : WL) (w : Bytes) : pos L w < L.length ↔ inL L w := by
  unfold pos inL
  rw [List.findIdx_lt_length]
  constructor
  · rintro ⟨x, hx, h⟩
    obtain ⟨i, hi, rfl⟩ := List.mem_iff_getElem.1 hx
    exact ⟨i, hi, by simpa using h⟩
  · rintro ⟨i, hi, h⟩
    exact ⟨L[i], List.getElem_mem hi, by simpa using h⟩
theorem pos_get {L : WL} {w : Bytes} (h : pos L w < L.length) : (L[pos L w]).1 = w := by
  have h2 : List.findIdx (fun x : Bytes × Nat => decide (x.1 = w)) L < L.length := h
  have := List.findIdx_getElem (xs := L) (p := fun x : Bytes × Nat => decide (x.1 = w)) (w := h2)
  exact of_decide_eq_true this

theorem LN_congr (c : Nat) (ws ws' : List Bytes) : ∀ n, (∀ i, i < n → ws.getD i [] = ws'.getD i []) → LN c ws n = LN c ws' n := by
  intro n
  induction n with
  | zero => intro _; rfl
  | succ n ih => intro h; rw [LN, LN, ih (fun i hi => h i (by omega)), h n (by omega)]

theorem LL_take (c : Nat) (ps : List (Nat × Nat)) (n : Nat) (h : n ≤ ps.length) : LL c (ps.take n) = LN c (words c ps) n := by
  unfold LL
  rw [List.length_take, Nat.min_eq_left h]
  apply LN_congr
  intro i hi
  rw [words_take]
  simp [List.getD_eq_getElem?_getD, hi]

theorem LL_snoc (c : Nat) (ps : List (Nat × Nat)) (p : Nat × Nat) : LL c (ps ++ [p]) = addL (LL c ps) (wd c (words c ps) p.1 ++ [UInt8.ofNat p.2]) (c + 2 + ps.length) := by
  unfold LL
  rw [List.length_append, List.length_singleton, LN]
  have h1 : LN c (words c (ps ++ [p])) ps.length = LN c (words c ps) ps.length := by
    apply LN_congr
    intro i hi
    rw [words_snoc, addP]
    simp [List.getD_eq_getElem?_getD, List.getElem?_append, hi]
  rw [h1]
  congr 1
  rw [words_snoc, addP]
  simp [List.getD_eq_getElem?_getD]

/-- what is known of the list of the different words -/
structure LOk (c : Nat) (ps : List (Nat × Nat)) (n : Nat) (L : WL) : Prop where
  clen : c ≤ L.length
  lit : ∀ b (h : b < L.length), b < c → L[b] = ([UInt8.ofNat b], b)
  dist : ∀ i j (hi : i < L.length) (hj : j < L.length), (L[i]).1 = (L[j]).1 → i = j
  inc : ∀ i j (hi : i < L.length) (hj : j < L.length), i < j → (L[i]).2 < (L[j]).2
  code : ∀ i (hi : i < L.length), has c n (L[i]).2 ∧ wd c (words c ps) (L[i]).2 = (L[i]).1
  all : ∀ code, has c n code → inL L (wd c (words c ps) code)
  least : ∀ code, has c n code → ∀ i (hi : i < L.length), (L[i]).1 = wd c (words c ps) code → (L[i]).2 ≤ code
  big : ∀ i (hi : i < L.length), c ≤ i → c + 2 ≤ (L[i]).2
  pre : ∀ i (hi : i < L.length), c ≤ i → ∃ p, ∃ hp : p < L.length, p < i ∧ ∃ b : UInt8, (L[i]).1 = (L[p]).1 ++ [b]
  ne : ∀ i (hi : i < L.length), 1 ≤ (L[i]).1.length
  one : ∀ i (hi : i < L.length), (L[i]).1.length = 1 → i < c

theorem LOk.pos_eq {c : Nat} {ps : List (Nat × Nat)} {n : Nat} {L : WL} (h : LOk c ps n L) {i : Nat} (hi : i < L.length) : pos L (L[i]).1 = i := by
  have h1 := (pos_lt_iff L (L[i]).1).2 ⟨i, hi, rfl⟩
  exact h.dist _ _ h1 hi (pos_get h1)

theorem LN_ok (c : Nat) (ps : List (Nat × Nat)) (hv : PV c ps) (hc : c ≤ 256) : ∀ n, n ≤ ps.length → LOk c ps n (LN c (words c ps) n) := by
  intro n
  induction n with
  | zero =>
    intro _
    have hl : (LN c (words c ps) 0).length = c := by simp [LN, lits]
    have hg : ∀ i (hi : i < (LN c (words c ps) 0).length), (LN c (words c ps) 0)[i] = ([UInt8.ofNat i], i) := by intro i hi; simp [LN, lits]
    have hinj : ∀ i j : Nat, i < c → j < c → UInt8.ofNat i = UInt8.ofNat j → i = j := by
      intro i j hi hj he
      have := congrArg UInt8.toNat he
      rw [UInt8.toNat_ofNat', UInt8.toNat_ofNat', Nat.mod_eq_of_lt (by omega), Nat.mod_eq_of_lt (by omega)] at this
      exact this
    constructor
    · omega
    · intro b h _; exact hg b h
    · intro i j hi hj he
      rw [hg, hg] at he
      exact hinj i j (by omega) (by omega) (by simpa using he)
    · intro i j hi hj hij; rw [hg, hg]; exact hij
    · intro i hi; rw [hg]; exact ⟨Or.inl (by omega), wd_lit _ _ _ (by omega)⟩
    · intro code hh
      have hcc : code < c := by unfold has at hh; omega
      exact ⟨code, by omega, by rw [hg, wd_lit _ _ _ hcc]⟩
    · intro code hh i hi he
      have hcc : code < c := by unfold has at hh; omega
      rw [hg, wd_lit _ _ _ hcc] at he
      have := hinj i code (by omega) hcc (by simpa using he)
      rw [hg]; omega
    · intro i hi hci; omega
    · intro i hi hci; omega
    · intro i hi; rw [hg]; simp
    · intro i hi _; omega
  | succ n ih =>
    intro hn
    have H := ih (by omega)
    have hw : (words c ps).getD n [] = wd c (words c ps) (c + 2 + n) := by
      unfold wd; rw [if_neg (by omega)]; congr 1; omega
    have hp := wd_pair c ps hv n (by omega)
    rw [LN, hw]
    generalize hL : LN c (words c ps) n = L at H
    have hall : ∀ code, has c (n + 1) code → code = c + 2 + n ∨ has c n code := by intro code hh; unfold has at *; omega
    unfold addL
    split
    · rename_i hin
      have hin' := (pos_lt_iff _ _).1 hin
      constructor
      · exact H.clen
      · exact H.lit
      · exact H.dist
      · exact H.inc
      · intro i hi; obtain ⟨a, b⟩ := H.code i hi; exact ⟨a.mono (by omega), b⟩
      · intro code hh
        rcases hall code hh with rfl | h1
        · exact hin'
        · exact H.all code h1
      · intro code hh i hi he
        rcases hall code hh with rfl | h1
        · have := (H.code i hi).1; unfold has at this; omega
        · exact H.least code h1 i hi he
      · exact H.big
      · exact H.pre
      · exact H.ne
      · exact H.one
    · rename_i hin
      have hin' : ¬ inL L (wd c (words c ps) (c + 2 + n)) := fun x => hin ((pos_lt_iff _ _).2 x)
      have hl : (L ++ [(wd c (words c ps) (c + 2 + n), c + 2 + n)]).length = L.length + 1 := by simp
      have hg1 : ∀ i (hi : i < L.length) (hi' : i < (L ++ [(wd c (words c ps) (c + 2 + n), c + 2 + n)]).length), (L ++ [(wd c (words c ps) (c + 2 + n), c + 2 + n)])[i] = L[i] := by
        intro i hi hi'; exact List.getElem_append_left hi
      have hg2 : ∀ i (_ : i = L.length) (hi' : i < (L ++ [(wd c (words c ps) (c + 2 + n), c + 2 + n)]).length), (L ++ [(wd c (words c ps) (c + 2 + n), c + 2 + n)])[i] = (wd c (words c ps) (c + 2 + n), c + 2 + n) := by
        intro i hi hi'; subst hi; simp
      have hclen := H.clen
      have hcase : ∀ i, i < (L ++ [(wd c (words c ps) (c + 2 + n), c + 2 + n)]).length → i < L.length ∨ i = L.length := by intro i hi; omega
      have hlt : ∀ i (hi : i < L.length), (L[i]).2 < c + 2 + n := by
        intro i hi; have := (H.code i hi).1; unfold has at this; omega
      obtain ⟨q, hq, hqe⟩ := H.all _ (hv.pre n (by omega))
      have hlen := (wd_ne c ps hv (c + 2 + n) (Or.inr ⟨by omega, by omega⟩)).1
      have hlq := H.ne q hq
      constructor
      · omega
      · intro b h hb; rw [hg1 b (by omega)]; exact H.lit b (by omega) hb
      · intro i j hi hj he
        rcases hcase i hi with h1 | h1 <;> rcases hcase j hj with h2 | h2
        · rw [hg1 i h1, hg1 j h2] at he; exact H.dist i j h1 h2 he
        · rw [hg1 i h1, hg2 j h2] at he; exact absurd ⟨i, h1, he⟩ hin'
        · rw [hg2 i h1, hg1 j h2] at he; exact absurd ⟨j, h2, he.symm⟩ hin'
        · omega
      · intro i j hi hj hij
        rcases hcase j hj with h2 | h2
        · rw [hg1 i (by omega), hg1 j h2]; exact H.inc i j (by omega) h2 hij
        · rw [hg1 i (by omega), hg2 j h2]; exact hlt i (by omega)
      · intro i hi
        rcases hcase i hi with h1 | h1
        · rw [hg1 i h1]; obtain ⟨a, b⟩ := H.code i h1; exact ⟨a.mono (by omega), b⟩
        · rw [hg2 i h1]; exact ⟨Or.inr ⟨by omega, by omega⟩, rfl⟩
      · intro code hh
        rcases hall code hh with rfl | h1
        · exact ⟨L.length, by omega, by rw [hg2 _ rfl]⟩
        · obtain ⟨i, hi, he⟩ := H.all code h1
          exact ⟨i, by omega, by rw [hg1 i hi]; exact he⟩
      · intro code hh i hi he
        rcases hcase i hi with h1 | h1
        · rw [hg1 i h1] at he ⊢
          rcases hall code hh with rfl | h2
          · have := hlt i h1; omega
          · exact H.least code h2 i h1 he
        · rw [hg2 i h1] at he ⊢
          rcases hall code hh with rfl | h2
          · exact Nat.le_refl _
          · exact absurd (by obtain ⟨j, hj, hje⟩ := H.all code h2; exact ⟨j, hj, hje.trans he.symm⟩) hin'
      · intro i hi hci
        rcases hcase i hi with h1 | h1
        · rw [hg1 i h1]; exact H.big i h1 hci
        · rw [hg2 i h1]; simp
      · intro i hi hci
        rcases hcase i hi with h1 | h1
        · obtain ⟨p, hpl, hpi, b, e⟩ := H.pre i h1 hci
          exact ⟨p, by omega, hpi, b, by rw [hg1 i h1, hg1 p hpl]; exact e⟩
        · refine ⟨q, by omega, by omega, UInt8.ofNat (ps[n]'(by omega)).2, ?_⟩
          rw [hg2 i h1, hg1 q hq, hqe]; exact hp
      · intro i hi
        rcases hcase i hi with h1 | h1
        · rw [hg1 i h1]; exact H.ne i h1
        · rw [hg2 i h1]; exact hlen
      · intro i hi ho
        rcases hcase i hi with h1 | h1
        · rw [hg1 i h1] at ho; exact H.one i h1 ho
        · rw [hg2 i h1] at ho
          rw [hp] at ho
          rw [← hqe, List.length_append, List.length_singleton] at ho
          omega

theorem LL_ok (c : Nat) (ps : List (Nat × Nat)) (hv : PV c ps) (hc : c ≤ 256) : LOk c ps ps.length (LL c ps) := LN_ok c ps hv hc ps.length (Nat.le_refl _)
end M

namespace M

/-- a node of the tree -/
structure Nd where
  par : Int
  child : Int
  next : Int
  last : Nat
  first : Nat
  code : Nat

/-- word j is word p and one more byte -/
def isChild (L : WL) (p j : Nat) : Bool := decide (2 ≤ (L.getD j ([], 0)).1.length ∧ (L.getD j ([], 0)).1.dropLast = (L.getD p ([], 0)).1)
/-- the last child of p among the first m words -/
def lc (L : WL) (p : Nat) : Nat → Int
  | 0 => -1
  | m + 1 => if isChild L p m then (m : Int) else lc L p m
def parI (L : WL) (i : Nat) : Nat := pos L (L.getD i ([], 0)).1.dropLast
def nd (L : WL) (i : Nat) : Nd :=
  { par := if (L.getD i ([], 0)).1.length ≤ 1 then -1 else (parI L i : Int)
    child := lc L i L.length
    next := if (L.getD i ([], 0)).1.length ≤ 1 then -1 else lc L (parI L i) i
    last := ((L.getD i ([], 0)).1.getLastD 0).toNat
    first := ((L.getD i ([], 0)).1.headD 0).toNat
    code := (L.getD i ([], 0)).2 }
def nodesOf (L : WL) : List Nd := (List.range L.length).map (nd L)

@[simp] theorem nodesOf_length (L : WL) : (nodesOf L).length = L.length := by simp [nodesOf]
theorem nodesOf_get (L : WL) (i : Nat) (h : i < L.length) : (nodesOf L)[i]? = some (nd L i) := by simp [nodesOf, h]

theorem lc_lt (L : WL) (p : Nat) : ∀ m, lc L p m < m := by
  intro m; induction m with
  | zero => simp [lc]
  | succ m ih => rw [lc]; split <;> omega
theorem lc_ge (L : WL) (p : Nat) : ∀ m, -1 ≤ lc L p m := by
  intro m; induction m with
  | zero => simp [lc]
  | succ m ih => rw [lc]; split <;> omega
theorem lc_child (L : WL) (p : Nat) : ∀ m, 0 ≤ lc L p m → isChild L p (lc L p m).toNat = true := by
  intro m; induction m with
  | zero => simp [lc]
  | succ m ih =>
    rw [lc]; split
    · rename_i h; intro _; simpa using h
    · exact ih
theorem lc_max (L : WL) (p : Nat) : ∀ m j, j < m → lc L p m < j → isChild L p j = false := by
  intro m; induction m with
  | zero => intro j h; omega
  | succ m ih =>
    intro j h
    rw [lc]; split
    · intro h2; omega
    · rename_i hn
      intro h2
      by_cases e : j = m
      · subst e; simpa using hn
      · exact ih j (by omega) h2
theorem lc_congr (L L' : WL) (p p' : Nat) : ∀ m, (∀ j, j < m → isChild L p j = isChild L' p' j) → lc L p m = lc L' p' m := by
  intro m; induction m with
  | zero => intro _; rfl
  | succ m ih => intro h; rw [lc, lc, h m (by omega), ih (fun j hj => h j (by omega))]
theorem lc_none (L : WL) (p : Nat) : ∀ m, (∀ j, j < m → isChild L p j = false) → lc L p m = -1 := by
  intro m; induction m with
  | zero => intro _; rfl
  | succ m ih => intro h; rw [lc, h m (by omega)]; exact ih (fun j hj => h j (by omega))

theorem getD_of_lt (L : WL) (i : Nat) (h : i < L.length) : L.getD i ([], 0) = L[i] := by simp [List.getD_eq_getElem?_getD, h]

section
variable {c : Nat} {ps : List (Nat × Nat)} {n : Nat} {L : WL} (H : LOk c ps n L)
include H

theorem LOk.lit_node {i : Nat} (hi : i < c) : (nd L i).par = -1 ∧ (nd L i).next = -1 ∧ (nd L i).code = i ∧ (nd L i).last = (UInt8.ofNat i).toNat ∧ (nd L i).first = (UInt8.ofNat i).toNat := by
  have hl : i < L.length := by have := H.clen; omega
  have e := H.lit i hl hi
  unfold nd
  rw [getD_of_lt L i hl, e]
  simp

/-- the parent of a node that is no literal -/
theorem LOk.par_node {i : Nat} (hi : i < L.length) (hc : c ≤ i) : ∃ p, ∃ hp : p < L.length, p < i ∧ parI L i = p ∧ (nd L i).par = p ∧ (nd L i).next = lc L p i ∧
    (L[i]).1 = (L[p]).1 ++ [UInt8.ofNat (nd L i).last] ∧ (nd L i).last < 256 ∧ isChild L p i = true := by
  obtain ⟨p, hp, hpi, b, e⟩ := H.pre i hi hc
  have hne := H.ne p hp
  have hlen : ¬ (L[i]).1.length ≤ 1 := by rw [e, List.length_append, List.length_singleton]; omega
  have hd : (L[i]).1.dropLast = (L[p]).1 := by rw [e, List.dropLast_concat]
  have hpos : parI L i = p := by
    unfold parI
    rw [getD_of_lt L i hi, hd]; exact H.pos_eq hp
  have hlast : (L[i]).1.getLastD 0 = b := by rw [e]; simp
  refine ⟨p, hp, hpi, hpos, ?_, ?_, ?_, ?_, ?_⟩
  · simp only [nd, getD_of_lt L i hi, if_neg hlen, hpos]
  · simp only [nd, getD_of_lt L i hi, if_neg hlen, hpos]
  · simp only [nd, getD_of_lt L i hi, hlast, UInt8.ofNat_toNat]; exact e
  · simp only [nd]; exact UInt8.toNat_lt _
  · unfold isChild
    rw [getD_of_lt L i hi, getD_of_lt L p hp, hd]
    simp; omega

/-- what a chain of children is good for: the child with a byte -/
theorem LOk.isChild_iff {p j : Nat} (hp : p < L.length) (hj : j < L.length) : isChild L p j = true ↔ ∃ b, (L[j]).1 = (L[p]).1 ++ [b] := by
  have hne := H.ne p hp
  unfold isChild
  rw [getD_of_lt L j hj, getD_of_lt L p hp]
  constructor
  · intro h
    have h := of_decide_eq_true h
    have hn : (L[j]).1 ≠ [] := by intro e; rw [e] at h; simp at h
    exact ⟨(L[j]).1.getLast hn, by rw [← h.2, List.dropLast_concat_getLast]⟩
  · rintro ⟨b, e⟩
    rw [e]; simp; omega

theorem LOk.last_of {p j : Nat} (hp : p < L.length) (hj : j < L.length) {b : UInt8} (e : (L[j]).1 = (L[p]).1 ++ [b]) : (nd L j).last = b.toNat ∧ parI L j = p ∧ c ≤ j := by
  have hne := H.ne p hp
  refine ⟨?_, ?_, ?_⟩
  · simp only [nd, getD_of_lt L j hj, e]; simp
  · unfold parI; rw [getD_of_lt L j hj, e, List.dropLast_concat]; exact H.pos_eq hp
  · rcases Nat.lt_or_ge j c with h | h
    · have h2 : (L[j]).1.length = 1 := by rw [H.lit j hj h]; rfl
      rw [e, List.length_append, List.length_singleton] at h2; omega
    · exact h

/-- the search along the chain of children: one step -/
theorem LOk.chain_step {p : Nat} (hp : p < L.length) {b : UInt8} {m : Nat} (hm : m ≤ L.length) (hno : ∀ j (hj : j < L.length), m ≤ j → (L[j]).1 ≠ (L[p]).1 ++ [b])
    (h0 : 0 ≤ lc L p m) (hb : (nd L (lc L p m).toNat).last ≠ b.toNat) :
    (nd L (lc L p m).toNat).next = lc L p (lc L p m).toNat ∧ (lc L p m).toNat < m ∧ ∀ j (hj : j < L.length), (lc L p m).toNat ≤ j → (L[j]).1 ≠ (L[p]).1 ++ [b] := by
  have hlt := lc_lt L p m
  have hch := lc_child L p m h0
  generalize hq : (lc L p m).toNat = q at *
  have hqm : q < m := by omega
  have hql : q < L.length := by omega
  obtain ⟨x, hx⟩ := (H.isChild_iff hp hql).1 hch
  obtain ⟨l1, l2, l3⟩ := H.last_of hp hql hx
  obtain ⟨p', hp', _, e1, _, e2, _⟩ := H.par_node hql l3
  have epp : p' = p := by omega
  subst epp
  refine ⟨e2, hqm, fun j hj hqj he => ?_⟩
  rcases Nat.lt_or_ge j m with h1 | h1
  · by_cases e : j = q
    · subst e
      obtain ⟨l1', _⟩ := H.last_of hp hj he
      exact hb l1'
    · have hf := lc_max L p' m j h1 (by omega)
      have ht := (H.isChild_iff hp hj).2 ⟨b, he⟩
      rw [hf] at ht; cases ht
  · exact hno j hj h1 he
/-- its end: found -/
theorem LOk.chain_found {p : Nat} (hp : p < L.length) {b : UInt8} {m : Nat} (hm : m ≤ L.length)
    (h0 : 0 ≤ lc L p m) (hb : (nd L (lc L p m).toNat).last = b.toNat) : ∃ h : (lc L p m).toNat < L.length, (L[(lc L p m).toNat]).1 = (L[p]).1 ++ [b] := by
  have hlt := lc_lt L p m
  have hch := lc_child L p m h0
  have hql : (lc L p m).toNat < L.length := by omega
  obtain ⟨x, hx⟩ := (H.isChild_iff hp hql).1 hch
  obtain ⟨l1, _⟩ := H.last_of hp hql hx
  refine ⟨hql, ?_⟩
  have : x = b := by
    have e : x.toNat = b.toNat := by rw [← l1, hb]
    exact UInt8.toNat_inj.1 e
  rw [hx, this]
/-- its end: not found -/
theorem LOk.chain_none {p : Nat} (hp : p < L.length) {b : UInt8} {m : Nat} (hno : ∀ j (hj : j < L.length), m ≤ j → (L[j]).1 ≠ (L[p]).1 ++ [b])
    (h0 : lc L p m < 0) : ¬ inL L ((L[p]).1 ++ [b]) := by
  rintro ⟨j, hj, he⟩
  rcases Nat.lt_or_ge j m with h1 | h1
  · have hf := lc_max L p m j h1 (by omega)
    have ht := (H.isChild_iff hp hj).2 ⟨b, he⟩
    rw [hf] at ht; cases ht
  · exact hno j hj h1 he
end
end M

namespace M

theorem LOk.inL_pos {c : Nat} {ps : List (Nat × Nat)} {n : Nat} {L : WL} (H : LOk c ps n L) {w : Bytes} {i : Nat} (hi : i < L.length) (e : (L[i]).1 = w) : pos L w = i := by
  subst e; exact H.pos_eq hi

/-- a new word behind the others -/
theorem push_nd {c : Nat} {ps : List (Nat × Nat)} {n n' : Nat} {L : WL} {p : Nat} {b : UInt8} {code : Nat} {ps' : List (Nat × Nat)} (H : LOk c ps n L) (hp : p < L.length)
    (H' : LOk c ps' n' (L ++ [((L[p]).1 ++ [b], code)])) :
    (∀ i, i < L.length → i ≠ p → nd (L ++ [((L[p]).1 ++ [b], code)]) i = nd L i) ∧
    nd (L ++ [((L[p]).1 ++ [b], code)]) p = { nd L p with child := (L.length : Int) } ∧
    nd (L ++ [((L[p]).1 ++ [b], code)]) L.length = { par := p, child := -1, next := (nd L p).child, last := b.toNat, first := (nd L p).first, code := code } := by
  generalize hL' : L ++ [((L[p]).1 ++ [b], code)] = L' at *
  have hlen : L'.length = L.length + 1 := by rw [← hL']; simp
  have hne := H.ne p hp
  have g1 : ∀ i, i < L.length → L'.getD i ([], 0) = L.getD i ([], 0) := by
    intro i hi; rw [← hL']; simp [List.getD_eq_getElem?_getD, List.getElem?_append, hi]
  have g2 : L'.getD L.length ([], 0) = ((L[p]).1 ++ [b], code) := by
    rw [← hL']; simp [List.getD_eq_getElem?_getD]
  have ge : ∀ i (hi : i < L.length) (hi' : i < L'.length), L'[i] = L[i] := by
    intro i hi hi'
    have := g1 i hi
    rw [getD_of_lt L' i hi', getD_of_lt L i hi] at this; exact this
  have gn : ∀ (hi' : L.length < L'.length), L'[L.length] = ((L[p]).1 ++ [b], code) := by
    intro hi'; rw [getD_of_lt L' _ hi'] at g2; exact g2
  have hcl := H.clen
  have c1 : ∀ q j, q < L.length → j < L.length → isChild L' q j = isChild L q j := by
    intro q j hq hj; unfold isChild; rw [g1 q hq, g1 j hj]
  have c2 : ∀ q, q < L.length → (isChild L' q L.length = decide (q = p)) := by
    intro q hq
    by_cases e : q = p
    · subst e
      have := (H'.isChild_iff (p := q) (j := L.length) (by omega) (by omega)).2 ⟨b, by rw [gn (by omega), ge q hq (by omega)]⟩
      rw [this]; simp
    · have : isChild L' q L.length = false := by
        cases hh : isChild L' q L.length with
        | false => rfl
        | true =>
          exfalso
          obtain ⟨x, hx⟩ := (H'.isChild_iff (p := q) (j := L.length) (by omega) (by omega)).1 hh
          rw [gn (by omega), ge q hq (by omega)] at hx
          have : (L[p]).1 = (L[q]).1 := by
            have := congrArg List.dropLast hx
            simpa using this
          exact e (H.dist q p hq hp this.symm)
      rw [this]; simp [e]
  have c3 : ∀ j, j < L'.length → isChild L' L.length j = false := by
    intro j hj
    cases hh : isChild L' L.length j with
    | false => rfl
    | true =>
      exfalso
      obtain ⟨x, hx⟩ := (H'.isChild_iff (p := L.length) (j := j) (by omega) hj).1 hh
      obtain ⟨_, h2, h3⟩ := H'.last_of (p := L.length) (j := j) (by omega) hj hx
      obtain ⟨q, hq, hqj, h4, _⟩ := H'.par_node hj h3
      omega
  have hpos : ∀ i, i < L.length → c ≤ i → parI L' i = parI L i := by
    intro i hi hc
    obtain ⟨q, hq, hqi, h4, _, _, h5, _⟩ := H.par_node hi hc
    have := (H'.last_of (p := q) (j := i) (by omega) (by omega) (b := UInt8.ofNat (nd L i).last) (by rw [ge i hi (by omega), ge q hq (by omega)]; exact h5)).2.1
    omega
  have hnext : ∀ i, i < L.length → (nd L' i).next = (nd L i).next ∧ (nd L' i).par = (nd L i).par := by
    intro i hi
    simp only [nd, g1 i hi]
    split
    · exact ⟨rfl, rfl⟩
    · rename_i h1
      have hci : c ≤ i := by
        rcases Nat.lt_or_ge i c with h | h
        · exfalso; apply h1; rw [getD_of_lt L i hi, H.lit i hi h]; simp
        · exact h
      obtain ⟨q, hq, hqi, h4, _⟩ := H.par_node hi hci
      rw [hpos i hi hci, h4]
      exact ⟨lc_congr _ _ _ _ _ (fun j hj => c1 q j hq (by omega)), rfl⟩
  refine ⟨fun i hi hip => ?_, ?_, ?_⟩
  · have h1 := hnext i hi
    have h2 : (nd L' i).child = (nd L i).child := by
      simp only [nd]
      rw [hlen, lc, c2 i hi]
      simp [hip]
      exact lc_congr _ _ _ _ _ (fun j hj => c1 i j hi hj)
    have h3 : (nd L' i).last = (nd L i).last ∧ (nd L' i).first = (nd L i).first ∧ (nd L' i).code = (nd L i).code := by simp only [nd, g1 i hi]; exact ⟨trivial, trivial, trivial⟩
    cases hA : nd L' i; cases hB : nd L i
    rw [hA, hB] at h1 h2 h3
    simp at h1 h2 h3 ⊢
    exact ⟨h1.2, h2, h1.1, h3.1, h3.2.1, h3.2.2⟩
  · have h1 := hnext p hp
    have h2 : (nd L' p).child = (L.length : Int) := by
      simp only [nd]
      rw [hlen, lc, c2 p hp]; simp
    have h3 : (nd L' p).last = (nd L p).last ∧ (nd L' p).first = (nd L p).first ∧ (nd L' p).code = (nd L p).code := by simp only [nd, g1 p hp]; exact ⟨trivial, trivial, trivial⟩
    cases hA : nd L' p; cases hB : nd L p
    rw [hA, hB] at h1 h3
    rw [hA] at h2
    simp at h1 h2 h3 ⊢
    exact ⟨h1.2, h2, h1.1, h3.1, h3.2.1, h3.2.2⟩
  · have hlen1 : ¬ ((L[p]).1 ++ [b]).length ≤ 1 := by rw [List.length_append, List.length_singleton]; omega
    have hpp : parI L' L.length = p := by
      have := (H'.last_of (p := p) (j := L.length) (by omega) (by omega) (b := b) (by rw [gn (by omega), ge p hp (by omega)])).2.1
      exact this
    have hch : lc L' L.length L'.length = -1 := lc_none _ _ _ (fun j hj => c3 j hj)
    have hnx : lc L' p L.length = lc L p L.length := lc_congr _ _ _ _ _ (fun j hj => c1 p j hp hj)
    have hfst : (((L[p]).1 ++ [b]).headD 0) = (L[p]).1.headD 0 := by
      cases hh : (L[p]).1 with
      | nil => rw [hh] at hne; simp at hne
      | cons x t => rfl
    unfold nd
    rw [g2]
    simp only [if_neg hlen1, hpp, hch, hnx, getD_of_lt L p hp, hfst]
    simp

/-- the list of the nodes' numbers of the pairs -/
def idxs (c : Nat) (ps : List (Nat × Nat)) : List Nat := (List.range ps.length).map fun i => pos (LL c ps) (wd c (words c ps) (c + 2 + i))
@[simp] theorem idxs_length (c : Nat) (ps : List (Nat × Nat)) : (idxs c ps).length = ps.length := by simp [idxs]

/-- the node of a code -/
def nodeI (c : Nat) (ps : List (Nat × Nat)) (code : Nat) : Nat := if code < c then code else (idxs c ps).getD (code - (c + 2)) 0
theorem nodeI_spec {c : Nat} {ps : List (Nat × Nat)} (hv : PV c ps) (hc : c ≤ 256) {code : Nat} (hh : has c ps.length code) :
    ∃ h : nodeI c ps code < (LL c ps).length, ((LL c ps)[nodeI c ps code]).1 = wd c (words c ps) code := by
  have H := LL_ok c ps hv hc
  unfold nodeI
  by_cases h1 : code < c
  · have hl : code < (LL c ps).length := by have := H.clen; omega
    simp only [if_pos h1]
    exact ⟨hl, by rw [H.lit code hl h1, wd_lit _ _ _ h1]⟩
  · have h2 : code - (c + 2) < ps.length := by unfold has at hh; omega
    have h3 : c + 2 + (code - (c + 2)) = code := by unfold has at hh; omega
    have e : (idxs c ps).getD (code - (c + 2)) 0 = pos (LL c ps) (wd c (words c ps) code) := by
      simp [idxs, List.getD_eq_getElem?_getD, h2, h3]
    simp only [if_neg h1, e]
    have h4 := (pos_lt_iff (LL c ps) (wd c (words c ps) code)).2 (H.all code hh)
    exact ⟨h4, pos_get h4⟩

theorem words_snoc_get (c : Nat) (ps : List (Nat × Nat)) (p : Nat × Nat) (code : Nat) (hh : has c ps.length code) :
    wd c (words c (ps ++ [p])) code = wd c (words c ps) code := by
  have := wd_take c (ps ++ [p]) ps.length code hh
  rw [List.take_left] at this
  exact this.symm
theorem words_snoc_last (c : Nat) (ps : List (Nat × Nat)) (p : Nat × Nat) (hv : PV c (ps ++ [p])) :
    wd c (words c (ps ++ [p])) (c + 2 + ps.length) = wd c (words c ps) p.1 ++ [UInt8.ofNat p.2] := by
  rw [wd_pair c _ hv ps.length (by simp)]
  have h1 := hv.pre ps.length (by simp)
  simp at h1 ⊢
  exact words_snoc_get c ps p p.1 h1

/-- positions of old words stand -/
theorem pos_addL {L : WL} (v : Bytes) (code : Nat) {w : Bytes} (hw : inL L w) : pos (addL L v code) w = pos L w := by
  unfold addL
  split
  · rfl
  · have h1 := (pos_lt_iff L w).2 hw
    unfold pos at *
    rw [List.findIdx_append, if_pos h1]

theorem idxs_snoc {c : Nat} {ps : List (Nat × Nat)} (hv : PV c ps) (hc : c ≤ 256) (p : Nat × Nat) (hv' : PV c (ps ++ [p])) :
    idxs c (ps ++ [p]) = idxs c ps ++ [pos (LL c (ps ++ [p])) (wd c (words c ps) p.1 ++ [UInt8.ofNat p.2])] := by
  have H := LL_ok c ps hv hc
  unfold idxs
  rw [List.length_append, List.length_singleton, List.range_succ, List.map_append]
  congr 1
  · apply List.map_congr_left
    intro i hi
    have hi := List.mem_range.1 hi
    have hh : has c ps.length (c + 2 + i) := Or.inr ⟨by omega, by omega⟩
    rw [words_snoc_get c ps p _ hh, LL_snoc]
    exact pos_addL _ _ (H.all _ hh)
  · simp only [List.map_cons, List.map_nil]
    rw [words_snoc_last c ps p hv']

/-- the words that are kept stand at the head of the list -/
theorem LL_prefix {c : Nat} {ps : List (Nat × Nat)} (n : Nat) (hn : n ≤ ps.length) : ∃ r, LL c ps = LL c (ps.take n) ++ r := by
  rw [LL_take c ps n hn]
  unfold LL
  have : ∀ m, n ≤ m → ∃ r, LN c (words c ps) m = LN c (words c ps) n ++ r := by
    intro m
    induction m with
    | zero => intro h; have : n = 0 := by omega
              subst this; exact ⟨[], by simp⟩
    | succ m ih =>
      intro h
      rcases Nat.lt_or_ge m n with h1 | h1
      · have : n = m + 1 := by omega
        subst this; exact ⟨[], by simp⟩
      · obtain ⟨r, hr⟩ := ih h1
        rw [LN]; unfold addL
        split
        · exact ⟨r, hr⟩
        · exact ⟨r ++ [((words c ps).getD m [], c + 2 + m)], by rw [hr, List.append_assoc]⟩
  exact this ps.length hn

theorem idxs_take {c : Nat} {ps : List (Nat × Nat)} (hv : PV c ps) (hc : c ≤ 256) (n : Nat) (hn : n ≤ ps.length) : idxs c (ps.take n) = (idxs c ps).take n := by
  have H := LL_ok c (ps.take n) (hv.take n) hc
  obtain ⟨r, hr⟩ := LL_prefix (c := c) n hn
  apply List.ext_getElem
  · simp
  · intro i h1 h2
    simp at h1
    have hh : has c n (c + 2 + i) := Or.inr ⟨by omega, by omega⟩
    have hw := wd_take c ps n _ hh
    simp only [idxs, List.getElem_map, List.getElem_range, List.getElem_take]
    rw [hw, hr]
    have h3 := (pos_lt_iff _ _).2 (H.all (c + 2 + i) (by rw [List.length_take, Nat.min_eq_left hn]; exact hh))
    rw [hw] at h3
    unfold pos at h3 ⊢
    rw [List.findIdx_append, if_pos h3]
end M

namespace M

theorem LN_take {c : Nat} {ws : List Bytes} : ∀ j n, c ≤ n → n ≤ (LN c ws j).length → ∃ i, i ≤ j ∧ LN c ws i = (LN c ws j).take n := by
  intro j
  induction j with
  | zero =>
    intro n h1 h2
    have hl : (LN c ws 0).length = c := by simp [LN, lits]
    exact ⟨0, Nat.le_refl _, by rw [List.take_of_length_le (by omega)]⟩
  | succ j ih =>
    intro n h1 h2
    rcases Nat.lt_or_ge (LN c ws j).length n with h | h
    · refine ⟨j + 1, Nat.le_refl _, ?_⟩
      have : (LN c ws (j + 1)).length ≤ n := by
        rw [LN]; unfold addL; split
        · omega
        · simp; omega
      rw [List.take_of_length_le this]
    · obtain ⟨i, hi, e⟩ := ih n h1 h
      refine ⟨i, by omega, ?_⟩
      rw [e, LN]; unfold addL
      split
      · rfl
      · rw [List.take_append_of_le_length h]

section
variable {c : Nat} {ps : List (Nat × Nat)} (hv : PV c ps) (hc : c ≤ 256)
include hv hc

/-- how many nodes are kept -/
theorem kept_iff (base : Nat) (hb : base ≤ ps.length) (i : Nat) (hi : i < (LL c ps).length) : c + 2 + base ≤ ((LL c ps)[i]).2 ↔ (LL c (ps.take base)).length ≤ i := by
  have H := LL_ok c ps hv hc
  have H0 := LL_ok c (ps.take base) (hv.take base) hc
  obtain ⟨r, hr⟩ := LL_prefix (c := c) (ps := ps) base hb
  have hle : (LL c (ps.take base)).length ≤ (LL c ps).length := by rw [hr]; simp
  have hlow : ∀ j, (hj : j < (LL c (ps.take base)).length) → ((LL c ps)[j]'(by omega)).2 < c + 2 + base := by
    intro j hj
    have h1 := (H0.code j hj).1
    have : (LL c ps)[j]'(by omega) = (LL c (ps.take base))[j] := by simp only [hr]; exact List.getElem_append_left hj
    rw [this]
    rw [List.length_take, Nat.min_eq_left hb] at h1
    unfold has at h1; omega
  constructor
  · intro h1
    rcases Nat.lt_or_ge i (LL c (ps.take base)).length with h | h
    · have := hlow i h; omega
    · exact h
  · intro h1
    rcases Nat.lt_or_ge ((LL c ps)[i]).2 (c + 2 + base) with h | h
    · exfalso
      obtain ⟨h2, h3⟩ := H.code i hi
      have hh : has c base ((LL c ps)[i]).2 := by
        unfold has at h2 ⊢; omega
      obtain ⟨j, hj, e⟩ := H0.all ((LL c ps)[i]).2 (by rw [List.length_take, Nat.min_eq_left hb]; exact hh)
      rw [wd_take c ps base _ hh, h3] at e
      have e2 : ((LL c ps)[j]'(by omega)).1 = ((LL c ps)[i]).1 := by
        rw [← e]; congr 1; simp only [hr]; exact List.getElem_append_left hj
      have := H.dist j i (by omega) hi e2
      omega
    · exact h

/-- the last node is taken away -/
theorem pop_nd (n : Nat) (h1 : c ≤ n) (h2 : n < (LL c ps).length) :
    ∃ p, p < n ∧ (nd ((LL c ps).take (n + 1)) n).par = p ∧
      nd ((LL c ps).take n) p = { nd ((LL c ps).take (n + 1)) p with child := (nd ((LL c ps).take (n + 1)) n).next } ∧
      (∀ i, i < n → i ≠ p → nd ((LL c ps).take n) i = nd ((LL c ps).take (n + 1)) i) ∧ (nd ((LL c ps).take (n + 1)) n).code = ((LL c ps)[n]).2 := by
  obtain ⟨i1, hi1, e1⟩ := LN_take (c := c) (ws := words c ps) ps.length n h1 (by show n ≤ (LL c ps).length; omega)
  obtain ⟨i2, hi2, e2⟩ := LN_take (c := c) (ws := words c ps) ps.length (n + 1) (by omega) (by show n + 1 ≤ (LL c ps).length; omega)
  have H1 := LN_ok c ps hv hc i1 hi1
  have H2 := LN_ok c ps hv hc i2 hi2
  rw [e1] at H1; rw [e2] at H2
  have l1 : ((LL c ps).take n).length = n := by rw [List.length_take]; omega
  have l2 : ((LL c ps).take (n + 1)).length = n + 1 := by rw [List.length_take]; omega
  change LOk c ps i1 ((LL c ps).take n) at H1
  change LOk c ps i2 ((LL c ps).take (n + 1)) at H2
  obtain ⟨p, hp, hpn, b, e⟩ := H2.pre n (by omega) h1
  have gn : ((LL c ps).take (n + 1))[n]'(by omega) = (LL c ps)[n] := by simp
  have gp : ((LL c ps).take (n + 1))[p] = ((LL c ps).take n)[p]'(by omega) := by simp
  have eL : (LL c ps).take (n + 1) = (LL c ps).take n ++ [((((LL c ps).take n)[p]'(by omega)).1 ++ [b], ((LL c ps)[n]).2)] := by
    rw [List.take_succ_eq_append_getElem h2]
    congr 1
    rw [gn, gp] at e
    rw [← e]
  have H2' := H2
  rw [eL] at H2'
  obtain ⟨a1, a2, a3⟩ := push_nd H1 (p := p) (by omega) H2'
  rw [← eL, l1] at a1 a2 a3
  refine ⟨p, hpn, by rw [a3], ?_, fun i hi hip => (a1 i hi hip).symm, by rw [a3]⟩
  rw [a2, a3]

/-- a pair is learned -/
theorem learn_nd (p : Nat × Nat) (hv' : PV c (ps ++ [p])) {q : Nat} (hq : q < (LL c ps).length) (hqe : ((LL c ps)[q]).1 = wd c (words c ps) p.1) :
    (inL (LL c ps) (((LL c ps)[q]).1 ++ [UInt8.ofNat p.2]) → LL c (ps ++ [p]) = LL c ps) ∧
    (¬ inL (LL c ps) (((LL c ps)[q]).1 ++ [UInt8.ofNat p.2]) →
      (LL c (ps ++ [p])).length = (LL c ps).length + 1 ∧ pos (LL c (ps ++ [p])) (((LL c ps)[q]).1 ++ [UInt8.ofNat p.2]) = (LL c ps).length ∧
      (∀ i, i < (LL c ps).length → i ≠ q → nd (LL c (ps ++ [p])) i = nd (LL c ps) i) ∧ nd (LL c (ps ++ [p])) q = { nd (LL c ps) q with child := ((LL c ps).length : Int) } ∧
      nd (LL c (ps ++ [p])) (LL c ps).length = { par := q, child := -1, next := (nd (LL c ps) q).child, last := (UInt8.ofNat p.2).toNat, first := (nd (LL c ps) q).first, code := c + 2 + ps.length }) := by
  have H := LL_ok c ps hv hc
  have H' := LL_ok c (ps ++ [p]) hv' hc
  have e := LL_snoc c ps p
  rw [← hqe] at e
  constructor
  · intro h
    rw [e]; unfold addL; rw [if_pos ((pos_lt_iff _ _).2 h)]
  · intro h
    have e2 : LL c (ps ++ [p]) = LL c ps ++ [(((LL c ps)[q]).1 ++ [UInt8.ofNat p.2], c + 2 + ps.length)] := by
      rw [e]; unfold addL; rw [if_neg (fun x => h ((pos_lt_iff _ _).1 x))]
    have H2 := H'
    rw [e2] at H2
    obtain ⟨a1, a2, a3⟩ := push_nd H hq H2
    rw [← e2] at a1 a2 a3
    refine ⟨by rw [e2]; simp, ?_, a1, a2, a3⟩
    have hl : (LL c ps).length < (LL c (ps ++ [p])).length := by rw [e2]; simp
    exact H'.inL_pos hl (by simp only [e2]; simp)
end

namespace Kn
/-- the search for the longest word, down the tree: where it ends -/
theorem longest_end {k : Kn} (h : k.V) {d : Bytes} (hd : d ≠ []) (hb : (d.headD 0).toNat < k.s.c) {n size : Nat} (hn : n < (LL k.s.c k.ps).length)
    (h1 : 1 ≤ size) (h2 : size ≤ d.length) (hw : ((LL k.s.c k.ps)[n]).1 = d.take size) (hmax : size < d.length → ¬ inL (LL k.s.c k.ps) (d.take (size + 1))) :
    ((size < d.length ∧ k.grows = true ∧ ((LL k.s.c k.ps)[n]).1 = k.W k.last.toNat ∧ d.getD size 0 = ((LL k.s.c k.ps)[n]).1.headD 0) → k.longF d = k.nxt ∧ (k.longW d).length = size + 1) ∧
    (¬ (size < d.length ∧ k.grows = true ∧ ((LL k.s.c k.ps)[n]).1 = k.W k.last.toNat ∧ d.getD size 0 = ((LL k.s.c k.ps)[n]).1.headD 0) → k.longF d = ((LL k.s.c k.ps)[n]).2 ∧ (k.longW d).length = size) := by
  have H := LL_ok k.s.c k.ps h.pv h.s.c256
  generalize hL : LL k.s.c k.ps = L at *
  have hc := h.s.c2
  have hL1 := longF_spec h hd hb
  have hlong := longW_spec h hd hb
  -- every word of the tree that begins the data is no longer
  have hno : ∀ u : Bytes, inL L u → u <+: d → u.length ≤ size := by
    intro u hu hp
    rcases Nat.lt_or_ge size u.length with hlt | hge
    · exfalso
      have hpl := hp.length_le
      -- all beginnings of u are words
      have key : ∀ m, ∀ v : Bytes, v.length = m → inL L v → v <+: d → size < v.length → inL L (d.take (size + 1)) := by
        intro m
        induction m with
        | zero => intro v hv _ _ hs; omega
        | succ m ih =>
          intro v hv hin hpv hs
          by_cases e : v.length = size + 1
          · rw [← e, ← List.prefix_iff_eq_take.1 hpv]; exact hin
          · obtain ⟨i, hi, hie⟩ := hin
            have hci : k.s.c ≤ i := by
              rcases Nat.lt_or_ge i k.s.c with hl | hl
              · have := H.lit i hi hl
                have h3 : (L[i]).1.length = 1 := by rw [this]; rfl
                rw [hie] at h3; omega
              · exact hl
            obtain ⟨p, hp', hpi, b, e2⟩ := H.pre i hi hci
            have h4 : v = (L[p]).1 ++ [b] := hie.symm.trans e2
            have h5 : (L[p]).1.length + 1 = v.length := by rw [h4, List.length_append, List.length_singleton]
            exact ih (L[p]).1 (by omega) ⟨p, hp', rfl⟩ ((List.prefix_append _ _).trans (h4 ▸ hpv)) (by omega)
      exact hmax (by omega) (key u.length u rfl hu hp hlt)
    · exact hge
  have hhas : ∀ code, has k.s.c k.ps.length code → k.A code = wd k.s.c (words k.s.c k.ps) code := by
    intro code hh
    unfold A; rw [if_neg (by unfold has nxt at *; omega)]; rfl
  have hcn := H.code n hn
  have hAn : k.A (L[n]).2 = d.take size := by rw [hhas _ hcn.1, hcn.2, hw]
  have hfn : k.follows (L[n]).2 := (h.follows_iff _).2 (Or.inl hcn.1)
  have hlw : size ≤ (k.longW d).length := by
    have := hlong.max _ hfn (by rw [hAn]; exact List.take_prefix _ _)
    rw [hAn, List.length_take] at this; omega
  -- the word to come
  have hnx : k.grows = true → k.A k.nxt = k.W k.last.toNat ++ (k.W k.last.toNat).take 1 ∧ inL L (k.W k.last.toNat) ∧ 1 ≤ (k.W k.last.toNat).length := by
    intro hg
    obtain ⟨g1, _, _⟩ := h.grows_last hg
    refine ⟨by unfold A; rw [if_pos rfl], H.all _ g1, (wd_ne _ _ h.pv _ g1).1⟩
  have htake : d.take (size + 1) = d.take size ++ (if size < d.length then [d.getD size 0] else []) := by
    split
    · rename_i hs
      rw [List.take_succ_eq_append_getElem hs]
      simp [List.getD_eq_getElem?_getD, hs]
    · rw [List.take_of_length_le (by omega), List.take_of_length_le (by omega), List.append_nil]
  have hone : ∀ u : Bytes, 1 ≤ u.length → u.take 1 = [u.headD 0] := by
    intro u hu; cases u with | nil => simp at hu | cons a t => rfl
  constructor
  · rintro ⟨hs, hg, he, hx⟩
    obtain ⟨n1, n2, n3⟩ := hnx hg
    have hA : k.A k.nxt = d.take (size + 1) := by
      rw [n1, hone _ n3, ← he, ← hx, htake, if_pos hs, hw]
    have hf : k.follows k.nxt := (h.follows_iff _).2 (Or.inr ⟨hg, rfl⟩)
    have hl1 := hlong.max _ hf (by rw [hA]; exact List.take_prefix _ _)
    rw [hA, List.length_take, Nat.min_eq_left (by omega)] at hl1
    -- no other
    have hcode : ∀ code, k.follows code → k.A code <+: d → (k.A code).length ≤ size ∨ code = k.nxt := by
      intro code hf hp
      rcases (h.follows_iff code).1 hf with h3 | h3
      · left; rw [hhas _ h3] at hp ⊢; exact hno _ (H.all _ h3) hp
      · right; exact h3.2
    have hF : k.longF d = k.nxt := by
      rcases hcode _ hL1.2.1 (by rw [hL1.2.2.1]; exact hlong.pre) with h3 | h3
      · rw [hL1.2.2.1] at h3; omega
      · exact h3
    refine ⟨hF, ?_⟩
    rw [← hL1.2.2.1, hF, hA, List.length_take, Nat.min_eq_left (by omega)]
  · intro hneg
    have hle : (k.longW d).length ≤ size := by
      obtain ⟨code, hf, hA⟩ := hlong.code
      have hp := hlong.pre
      rw [← hA] at hp ⊢
      rcases (h.follows_iff code).1 hf with h3 | h3
      · rw [hhas _ h3] at hp ⊢; exact hno _ (H.all _ h3) hp
      · obtain ⟨hg, rfl⟩ := h3
        obtain ⟨n1, n2, n3⟩ := hnx hg
        rw [n1] at hp ⊢
        have hp2 : k.W k.last.toNat <+: d := (List.prefix_append _ _).trans hp
        have h4 := hno _ n2 hp2
        have hpl := hp.length_le
        rw [List.length_append, hone _ n3, List.length_singleton] at hpl ⊢
        rcases Nat.lt_or_ge (k.W k.last.toNat).length size with h5 | h5
        · omega
        · exfalso; apply hneg
          have h6 : (k.W k.last.toNat).length = size := by omega
          have h7 : k.W k.last.toNat = d.take size := by rw [← h6]; exact List.prefix_iff_eq_take.1 hp2
          have hs : size < d.length := by omega
          refine ⟨hs, hg, by rw [hw, h7], ?_⟩
          have h8 := List.prefix_iff_eq_take.1 hp
          rw [List.length_append, hone _ n3, List.length_singleton, h6, htake, if_pos hs, h7] at h8
          have h9 := List.append_cancel_left h8
          rw [hw]
          simpa using h9.symm
    have hlen : (k.longW d).length = size := by omega
    have hW : k.longW d = d.take size := by rw [← hlen]; exact hL1.2.2.2.2.2
    refine ⟨?_, hlen⟩
    obtain ⟨m, m1, m2, m3, m4⟩ := find_spec h hfn (hAn.trans hW.symm)
    have e : k.longF d = m := by unfold longF; rw [m1]; rfl
    rw [e]
    have hm1 := m4 _ hfn (hAn.trans hW.symm)
    rcases (h.follows_iff m).1 m2 with h3 | h3
    · have := H.least m h3 n hn (by rw [hw, ← hhas _ h3, m3, hW])
      omega
    · have := hcn.1
      obtain ⟨_, rfl⟩ := h3
      unfold has nxt at *; omega
end Kn
end M

namespace Go.Proofs.YtlaijbkonapdbaaGreat
open Go.RowKit

theorem bcell {W w1 : World} (hb : Below W.heap.size W w1) : (∀ b o, b < W.heap.size → w1.cell? ⟨b, o, none⟩ = W.cell? ⟨b, o, none⟩) ∧ (∀ b o, b < W.heap.size → w1.frozen? ⟨b, o, none⟩ = W.frozen? ⟨b, o, none⟩) :=
  ⟨fun b o h => hb.cell (p := ⟨b, o, none⟩) h, fun b o h => hb.frozen (p := ⟨b, o, none⟩) h⟩

theorem ret_int {k : IntKind} {a b : Int} (h : a = b) : Ending.returned (.int k a) = .returned (.int k b) := by rw [h]
theorem ret_bool {a b : Bool} (h : a = b) : Ending.returned (.bool a) = .returned (.bool b) := by rw [h]

theorem c_l1In (a b c : Int) (w : World) : Calls Tryz.prog 22 #[.int .i64 a, .int .i64 b, .int .i64 c] w fun e w' => e = .returned (.bool (decide (b ≤ a ∧ a ≤ c))) ∧ w = w' := by
  by_cases h1 : b ≤ a
  · go_enter Tryz.func22, Tryz.ntmps22
    go_wp2
    go_ret
    exact ⟨by simp [h1], rfl⟩
  · go_enter Tryz.func22, Tryz.ntmps22
    go_wp2
    go_ret
    exact ⟨ret_bool (by rw [Bool.eq_iff_iff]; simp; omega), rfl⟩

theorem c_l1Order (a : Int) (w : World) : Calls Tryz.prog 70 #[.int .i64 a] w fun e w' => e = .returned (.bool (decide (a = 0 ∨ a = 1))) ∧ w = w' := by
  by_cases h1 : a = 0
  · subst h1
    go_enter Tryz.func70, Tryz.ntmps70
    go_wp2
    go_ret
    exact ⟨by simp, rfl⟩
  · have h2 : (a == 0) = false := by simpa using h1
    go_enter Tryz.func70, Tryz.ntmps70
    go_wp2
    go_ret
    exact ⟨ret_bool (by rw [Bool.eq_iff_iff]; simp [h1]), rfl⟩
theorem c_orderValid (a : Int) (w : World) : Calls Tryz.prog 76 #[.int .i64 a] w fun e w' => e = .returned (.bool (decide (a = 0 ∨ a = 1))) ∧ w = w' := by
  by_cases h1 : a = 0
  · subst h1
    go_enter Tryz.func76, Tryz.ntmps76
    go_wp2
    go_ret
    exact ⟨by simp, rfl⟩
  · have h2 : (a == 0) = false := by simpa using h1
    go_enter Tryz.func76, Tryz.ntmps76
    go_wp2
    go_ret
    exact ⟨ret_bool (by rw [Bool.eq_iff_iff]; simp [h1]), rfl⟩

theorem two20 (n : Nat) (h : n ≤ 20) : 2 ^ n ≤ 1048576 := by
  have h2 : 2 ^ n ≤ 2 ^ 20 := Nat.pow_le_pow_right (by omega) h
  have h3 : (2 ^ 20 : Nat) = 1048576 := by decide
  omega
theorem wrap_two (n c : Nat) (h : n ≤ 20) (hc : 2 ^ n = c) : wrap64 (2 ^ n) = c := by
  have := two20 n h
  have e : ((2 : Int) ^ n) = ((2 ^ n : Nat) : Int) := by simp
  rw [e, hc, IntWalk.wrap64_in _ ⟨by omega, by omega⟩]

theorem c_l1Two (n c : Nat) (w : World) (h : n ≤ 20) (hc : 2 ^ n = c) : Calls Tryz.prog 90 #[.int .i64 n] w fun e w' => e = .returned (.int .i64 c) ∧ w = w' := by
  have HC := Lib.hid hc
  clear hc
  go_enter Tryz.func90, Tryz.ntmps90
  go_wp2
  go_ret
  exact ⟨ret_int (wrap_two n c h HC.out), rfl⟩

section
variable (s : M.St) (hs : s.Ok) (w : World)
include hs

theorem c_l1Clear : Calls Tryz.prog 71 #[.agg #[.int .i64 s.ord, .int .i64 s.lit, .int .i64 s.most]] w fun e w' => e = .returned (.int .i64 s.c) ∧ Below w.heap.size w w' := by
  have h8 := hs.lit8
  go_enter Tryz.func71, Tryz.ntmps71
  go_wp2_with (go_at_call 90; refine (c_l1Two _ s.c _ (by omega) rfl).mono ?_; rintro e w' ⟨rfl, rfl⟩)
  go_ret
  exact ⟨rfl, (Below.refl _ _).alloc (Nat.le_refl _) _⟩
theorem c_l1End : Calls Tryz.prog 93 #[.agg #[.int .i64 s.ord, .int .i64 s.lit, .int .i64 s.most]] w fun e w' => e = .returned (.int .i64 s.e) ∧ Below w.heap.size w w' := by
  have h8 := hs.lit8
  have h256 := hs.c256
  go_enter Tryz.func93, Tryz.ntmps93
  go_wp2_with (go_at_call 90; refine (c_l1Two _ s.c _ (by omega) rfl).mono ?_; rintro e w' ⟨rfl, rfl⟩)
  go_ret
  exact ⟨ret_int (by rw [M.St.e_eq]; rfl), (Below.refl _ _).alloc (Nat.le_refl _) _⟩
theorem c_l1Last : Calls Tryz.prog 92 #[.agg #[.int .i64 s.ord, .int .i64 s.lit, .int .i64 s.most]] w fun e w' => e = .returned (.int .i64 s.l) ∧ Below w.heap.size w w' := by
  have h10 := hs.most10
  have h1 : 2 ^ s.most ≤ 1048576 := two20 _ (by omega)
  have h2 : 1 ≤ 2 ^ s.most := Nat.one_le_two_pow
  obtain ⟨c, hc⟩ : ∃ c, 2 ^ s.most = c := ⟨_, rfl⟩
  have hl : (s.l : Int) = c - 1 := by unfold M.St.l; omega
  rw [hc] at h1 h2
  have HC := Lib.hid hc
  have HL := Lib.hid hl
  clear hc hl
  go_enter Tryz.func92, Tryz.ntmps92
  go_wp2_with (go_at_call 90; refine (c_l1Two _ c _ (by omega) HC.out).mono ?_; rintro e w' ⟨rfl, rfl⟩)
  go_ret
  exact ⟨ret_int (by rw [HL.out]), (Below.refl _ _).alloc (Nat.le_refl _) _⟩
end

theorem c_orderValid_b (a : Int) (b : Bool) (h : decide (a = 0 ∨ a = 1) = b) (w : World) : Calls Tryz.prog 76 #[.int .i64 a] w fun e w' => e = .returned (.bool b) ∧ w = w' :=
  (c_orderValid a w).mono fun _ _ ⟨he, hw⟩ => ⟨by rw [he, h], hw⟩
theorem c_l1Order_b (a : Int) (b : Bool) (h : decide (a = 0 ∨ a = 1) = b) (w : World) : Calls Tryz.prog 70 #[.int .i64 a] w fun e w' => e = .returned (.bool b) ∧ w = w' :=
  (c_l1Order a w).mono fun _ _ ⟨he, hw⟩ => ⟨by rw [he, h], hw⟩
theorem c_l1In_b (a b c : Int) (r : Bool) (h : decide (b ≤ a ∧ a ≤ c) = r) (w : World) : Calls Tryz.prog 22 #[.int .i64 a, .int .i64 b, .int .i64 c] w fun e w' => e = .returned (.bool r) ∧ w = w' :=
  (c_l1In a b c w).mono fun _ _ ⟨he, hw⟩ => ⟨by rw [he, h], hw⟩

set_option maxHeartbeats 1000000 in
theorem c_SettingValid_impl (o l m : Int) (w : World) :
    Calls Tryz.prog 61 #[.agg #[.int .i64 o, .int .i64 l, .int .i64 m]] w fun e w' => e = .returned (.bool (M.okS o l m)) ∧ Below w.heap.size w w' := by
  obtain ⟨b, hb⟩ : ∃ b, M.okS o l m = b := ⟨_, rfl⟩
  have HB := Lib.hid hb
  rw [hb]; clear hb
  by_cases h0 : o = 0 ∨ o = 1
  · have H0 := Lib.hid h0
    clear h0
    rcases (show l < 1 ∨ (1 ≤ l ∧ 8 < l) ∨ (1 ≤ l ∧ l ≤ 8 ∧ m < l + 2) ∨ (1 ≤ l ∧ l ≤ 8 ∧ l + 2 ≤ m ∧ 10 < m) ∨ (1 ≤ l ∧ l ≤ 8 ∧ l + 2 ≤ m ∧ m ≤ 10) by omega) with h | ⟨h1, h⟩ | ⟨h1, h2, h⟩ | ⟨h1, h2, h3, h⟩ | ⟨h1, h2, h3, h⟩
    all_goals
      go_enter Tryz.func61, Tryz.ntmps61
      go_wp2_with (go_at_call 76; refine (c_orderValid_b _ true (decide_eq_true H0.out) _).mono ?_; rintro e w' ⟨rfl, rfl⟩)
      go_ret
      exact ⟨ret_bool (by have := H0.out; rw [← HB.out, Bool.eq_iff_iff]; unfold M.okS; simp; omega), (Below.refl _ _).alloc (Nat.le_refl _) _⟩
  · have H0 := Lib.hid h0
    clear h0
    go_enter Tryz.func61, Tryz.ntmps61
    go_wp2_with (go_at_call 76; refine (c_orderValid_b _ false (decide_eq_false H0.out) _).mono ?_; rintro e w' ⟨rfl, rfl⟩)
    go_ret
    exact ⟨ret_bool (by have := H0.out; rw [← HB.out, Bool.eq_iff_iff]; unfold M.okS; simp; omega), (Below.refl _ _).alloc (Nat.le_refl _) _⟩
end Go.Proofs.YtlaijbkonapdbaaGreat

namespace Go.Proofs.YtlaijbkonapdbaaGreat
open Go.RowKit

/-- what was there has not turned -/
def G (w w' : World) : Prop := Below w.heap.size w w'
theorem G.refl (w : World) : G w w := Below.refl _ _
theorem G.size {a b : World} (h : G a b) : a.heap.size ≤ b.heap.size := Below.size h
theorem G.trans {a b c : World} (h : G a b) (k : G b c) : G a c := Below.trans h (Below.mono k h.size)
theorem G.alloc {a b : World} (h : G a b) (o : Obj) : G a (b.alloc o) := Below.alloc h h.size o
theorem G.drew {a b : World} (h : G a b) : G a b.drew := Below.drew h
theorem G.drewN {a b : World} (h : G a b) (n : Nat) : G a (b.drewN n) := by
  have k : Below a.heap.size a b := h
  exact ⟨k.os, k.tape, k.output, k.size, k.block⟩
theorem G.setCell {a b : World} (h : G a b) {p : Addr} (hp : a.heap.size ≤ p.block) (u : Value) : G a (b.setCell p u) := Below.setCell h hp u
theorem G.grown {a b c : World} {row : Option Nat} (h : G a b) (hg : b.grownBy c row) (hr : ∀ k, row = some k → a.heap.size ≤ k) : G a c := Below.grown h hg h.size hr
theorem G.cell {a b : World} (h : G a b) {p : Addr} (hp : p.block < a.heap.size) : b.cell? p = a.cell? p := Below.cell h hp
theorem G.frozen {a b : World} (h : G a b) {p : Addr} (hp : p.block < a.heap.size) : b.frozen? p = a.frozen? p := Below.frozen h hp
theorem gcell {W w1 : World} (hb : G W w1) : (∀ b o, b < W.heap.size → w1.cell? ⟨b, o, none⟩ = W.cell? ⟨b, o, none⟩) ∧ (∀ b o, b < W.heap.size → w1.frozen? ⟨b, o, none⟩ = W.frozen? ⟨b, o, none⟩) := bcell hb
theorem grow_cell (w : World) (d : Nat) (os : Array Obj) (b o : Nat) (h : b < w.heap.size) : (Go.Sort.grow (redrawn w d) os).cell? ⟨b, o, none⟩ = w.cell? ⟨b, o, none⟩ := (below_regrown w d os).cell (p := ⟨b, o, none⟩) h
theorem grow_frozen (w : World) (d : Nat) (os : Array Obj) (b o : Nat) (h : b < w.heap.size) : (Go.Sort.grow (redrawn w d) os).frozen? ⟨b, o, none⟩ = w.frozen? ⟨b, o, none⟩ := (below_regrown w d os).frozen (p := ⟨b, o, none⟩) h
theorem G.grow (w : World) (d : Nat) (os : Array Obj) : G w (Go.Sort.grow (redrawn w d) os) := below_regrown w d os
theorem G.of_regrown {w w' : World} (h : ∃ p : Regrown, w' = Go.Sort.grow (redrawn w p.d) p.os) : G w w' := by
  obtain ⟨p, rfl⟩ := h
  exact G.grow w p.d p.os
/-- a callee's contract, met in a region that draws its order -/
theorem qcall {P : Program} {f : FuncId} {args : Array Value} {w : World} {d : Nat} {os : Array Obj} {v : Value}
    (h : Calls P f args (Go.Sort.grow (redrawn w d) os) fun e w' => e = .returned v ∧ G (Go.Sort.grow (redrawn w d) os) w') : Calls P f args (Go.Sort.grow (redrawn w d) os) fun e w'' => e = .returned v ∧ ∃ p : Regrown, w'' = Go.Sort.grow (redrawn w p.d) p.os :=
  Calls.regrown_of h
/-- the same for a callee that leaves the world as it is -/
theorem qcall' {P : Program} {f : FuncId} {args : Array Value} {w : World} {d : Nat} {os : Array Obj} {v : Value}
    (h : Calls P f args (Go.Sort.grow (redrawn w d) os) fun e w' => e = .returned v ∧ Go.Sort.grow (redrawn w d) os = w') : Calls P f args (Go.Sort.grow (redrawn w d) os) fun e w'' => e = .returned v ∧ ∃ p : Regrown, w'' = Go.Sort.grow (redrawn w p.d) p.os :=
  Calls.regrown_of (h.mono fun _ _ ⟨he, hw⟩ => ⟨he, by rw [← hw]; exact Below.refl _ _⟩)
theorem G.heap {a b : World} (h : G a b) {k : Nat} (hk : k < a.heap.size) : b.heap[k]? = a.heap[k]? := Below.block h k hk

/-- the world at hand by what is known of it -/
theorem wp_gen {P : Program} {c : Code} {Q : Exit → Act → World → Prop} {a : Act} {W : World} (Φ : World → Prop) (hΦ : Φ W) (h : ∀ W', Φ W' → c.wp P Q a W') : c.wp P Q a W := h W hΦ

/-- a slice that reads as cells: n elements of so many cells each -/
def Rds (w : World) (size : Nat) (A : Option Addr) (n : Nat) (xs : List Value) : Prop :=
  xs.length = n * size ∧ (0 < n → ∃ g, A = some ⟨g, 0, none⟩ ∧ g < w.heap.size ∧ ∀ j u, xs[j]? = some u → w.cell? ⟨g, j, none⟩ = some u)

section
variable {w w' : World} {size n : Nat} {A : Option Addr} {xs : List Value}
theorem Rds.nil : Rds w size none 0 [] := ⟨by simp, fun h => absurd h (by omega)⟩
theorem Rds.g (h : Rds w size A n xs) (hg : G w w') : Rds w' size A n xs :=
  ⟨h.1, fun hn => by
    obtain ⟨g, e, hl, hc⟩ := h.2 hn
    exact ⟨g, e, Nat.lt_of_lt_of_le hl hg.size, fun j u hu => (hg.cell (p := ⟨g, j, none⟩) hl).trans (hc j u hu)⟩⟩
theorem Rds.alloc (h : Rds w size A n xs) (o : Obj) : Rds (w.alloc o) size A n xs := h.g ((G.refl w).alloc o)
theorem Rds.drew (h : Rds w size A n xs) : Rds w.drew size A n xs := h
theorem Rds.at_ (h : Rds w size A n xs) (hn : 0 < n) : ∃ g, A = some ⟨g, 0, none⟩ ∧ g < w.heap.size ∧ ∀ j u, xs[j]? = some u → w.cell? ⟨g, j, none⟩ = some u := h.2 hn
theorem Rds.take (h : Rds w size A n xs) (m : Nat) (hm : m ≤ n) : Rds w size A m (xs.take (m * size)) := by
  refine ⟨?_, fun h0 => ?_⟩
  · rw [List.length_take, h.1, Nat.min_eq_left (Nat.mul_le_mul_right _ hm)]
  · obtain ⟨g, e, hl, hc⟩ := h.2 (by omega)
    refine ⟨g, e, hl, fun j u hu => hc j u ?_⟩
    rw [List.getElem?_take] at hu
    split at hu
    · exact hu
    · cases hu
theorem add_head (g j : Nat) : (⟨g, 0, none⟩ : Addr).add j = ⟨g, j, none⟩ := by unfold Addr.add; split <;> simp_all
theorem Rds.own {base : Nat} {e : TypeId} {c : Nat} (h : w.ownsRow base e size (.slice A n c) n xs) : Rds w size A n xs := by
  refine ⟨h.1, fun hn => ?_⟩
  rcases h.2 with ⟨hv, h0⟩ | ⟨g, cap, cur, hv, _, hh, _⟩
  · omega
  · injection hv with hA
    subst hA
    refine ⟨g, rfl, (Array.getElem?_eq_some_iff.1 hh).1, fun j u hu => ?_⟩
    have := h.cells (g := g) rfl j u hu
    rwa [add_head] at this
end

/-- an owned row and what it was made of -/
theorem own_mono {w : World} {base base' : Nat} {e : TypeId} {size n : Nat} {v : Value} {xs : List Value} (h : w.ownsRow base e size v n xs) (hb : base' ≤ base) : w.ownsRow base' e size v n xs := by
  refine ⟨h.1, ?_⟩
  rcases h.2 with h2 | ⟨g, cap, cur, hv, hg, r⟩
  · exact Or.inl h2
  · exact Or.inr ⟨g, cap, cur, hv, by omega, r⟩
theorem own_g {w w' : World} {base : Nat} {e : TypeId} {size n : Nat} {v : Value} {xs : List Value} (h : w.ownsRow base e size v n xs) (hg : G w w') : w'.ownsRow base e size v n xs := by
  refine ⟨h.1, ?_⟩
  rcases h.2 with h2 | ⟨g, cap, cur, hv, hb, hh, r⟩
  · exact Or.inl h2
  · exact Or.inr ⟨g, cap, cur, hv, hb, (hg.heap (Array.getElem?_eq_some_iff.1 hh).1).trans hh, r⟩
theorem own_form {w : World} {base : Nat} {e : TypeId} {size n : Nat} {v : Value} {xs : List Value} (h : w.ownsRow base e size v n xs) : ∃ A c, v = .slice A n c := by
  rcases h.2 with ⟨h2, h3⟩ | ⟨g, cap, cur, hv, _⟩
  · exact ⟨none, 0, by rw [h2, h3]⟩
  · exact ⟨_, cap, hv⟩

/-! cells of data -/
def cP (ps : List (Nat × Nat)) : List Value := ps.flatMap fun p => [.int .i64 p.1, .int .i64 p.2]
def cI (xs : List Nat) : List Value := xs.map fun (n : Nat) => .int .i64 n
def cB (bs : M.Bytes) : List Value := bs.map fun b => .int .u8 b.toNat
def S (b : M.Bytes) : Value := .string ⟨b.toArray⟩

theorem flat_get {α : Type} (f : α → List Value) (m : Nat) (hf : ∀ a, (f a).length = m) (l : List α) : ∀ (i j : Nat) (a : α), l[i]? = some a → j < m → (l.flatMap f)[i * m + j]? = (f a)[j]? := by
  induction l with
  | nil => intro i j a h; simp at h
  | cons x l ih =>
    intro i j a h hj
    rw [List.flatMap_cons]
    cases i with
    | zero => simp at h; subst h; rw [Nat.zero_mul, Nat.zero_add, List.getElem?_append_left (by rw [hf]; exact hj)]
    | succ i =>
      rw [List.getElem?_append_right (by rw [hf, Nat.add_mul]; omega), hf]
      have e : (i + 1) * m + j - m = i * m + j := by rw [Nat.add_mul]; omega
      rw [e]
      exact ih i j a (by simpa using h) hj
theorem flat_len {α : Type} (f : α → List Value) (m : Nat) (hf : ∀ a, (f a).length = m) (l : List α) : (l.flatMap f).length = l.length * m := by
  induction l with
  | nil => simp
  | cons x l ih => rw [List.flatMap_cons, List.length_append, hf, ih, List.length_cons, Nat.add_mul]; omega
theorem flat_take {α : Type} (f : α → List Value) (m : Nat) (hf : ∀ a, (f a).length = m) (l : List α) : ∀ n, (l.flatMap f).take (n * m) = (l.take n).flatMap f := by
  induction l with
  | nil => intro n; simp
  | cons x l ih =>
    intro n
    cases n with
    | zero => simp
    | succ n =>
      rw [List.flatMap_cons, List.take_succ_cons, List.flatMap_cons, ← ih n, Nat.add_mul, Nat.one_mul, Nat.add_comm]
      rw [List.take_append, hf, List.take_of_length_le (by rw [hf]; omega)]
      congr 1
      congr 1
      omega
theorem cP_len (ps : List (Nat × Nat)) : (cP ps).length = ps.length * 2 := flat_len _ 2 (fun _ => rfl) ps
theorem cP_take (ps : List (Nat × Nat)) (n : Nat) : (cP ps).take (n * 2) = cP (ps.take n) := flat_take _ 2 (fun _ => rfl) ps n
theorem cP_append (a b : List (Nat × Nat)) : cP (a ++ b) = cP a ++ cP b := by simp [cP]
theorem cP_get (ps : List (Nat × Nat)) (i : Nat) (h : i < ps.length) : (cP ps)[i * 2]? = some (.int .i64 ps[i].1) ∧ (cP ps)[i * 2 + 1]? = some (.int .i64 ps[i].2) :=
  ⟨by have := flat_get (fun p : Nat × Nat => [Value.int .i64 p.1, .int .i64 p.2]) 2 (fun _ => rfl) ps i 0 ps[i] (by simp [h]) (by omega); simpa [cP] using this,
   by have := flat_get (fun p : Nat × Nat => [Value.int .i64 p.1, .int .i64 p.2]) 2 (fun _ => rfl) ps i 1 ps[i] (by simp [h]) (by omega); simpa [cP] using this⟩
@[simp] theorem cI_len (xs : List Nat) : (cI xs).length = xs.length := by simp [cI]
@[simp] theorem cB_len (xs : M.Bytes) : (cB xs).length = xs.length := by simp [cB]
end Go.Proofs.YtlaijbkonapdbaaGreat
