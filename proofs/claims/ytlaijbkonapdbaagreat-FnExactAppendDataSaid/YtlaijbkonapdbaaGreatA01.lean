/-
  FnExactAppendDataSaid is proved: for every input FnExactAppendData returns true, and each argument reads afterwards as it read before; no conditions. Part 1 of 25.
-/

set_option linter.all false

namespace M

/-- the byte of a bit -/
def bch (b : Bool) : UInt8 := if b then 49 else 48

/-- bits of a number, lowest first -/
def bitsL (n w : Nat) : List Bool := (List.range w).map (fun i => n.testBit i)
/-- bits of a number in an order -/
def bitsO (ord n w : Nat) : List Bool := if ord = 0 then bitsL n w else (bitsL n w).reverse

/-- number of bits, lowest first -/
def numL : List Bool → Nat
  | [] => 0
  | b :: l => b.toNat + 2 * numL l
def numO (ord : Nat) (l : List Bool) : Nat := if ord = 0 then numL l else numL l.reverse

theorem bitsL_succ (n w : Nat) : bitsL n (w + 1) = n.testBit 0 :: bitsL (n / 2) w := by
  simp only [bitsL, List.range_succ_eq_map, List.map_cons, List.map_map]
  congr 1
  apply List.map_congr_left
  intro i _
  simp [Nat.testBit_succ]

@[simp] theorem bitsL_length (n w : Nat) : (bitsL n w).length = w := by simp [bitsL]
@[simp] theorem bitsO_length (o n w : Nat) : (bitsO o n w).length = w := by unfold bitsO; split <;> simp

theorem numL_bitsL (w : Nat) : ∀ n, n < 2 ^ w → numL (bitsL n w) = n := by
  induction w with
  | zero => intro n h; simp at h; subst h; rfl
  | succ w ih =>
    intro n h
    rw [bitsL_succ, numL, ih (n / 2) (by rw [Nat.pow_succ] at h; omega)]
    rw [Nat.testBit_zero]
    rcases Nat.mod_two_eq_zero_or_one n with h0 | h1
    · simp [h0]; omega
    · simp [h1]; omega

theorem numL_lt (l : List Bool) : numL l < 2 ^ l.length := by
  induction l with
  | nil => simp [numL]
  | cons b l ih =>
    have : b.toNat ≤ 1 := by cases b <;> simp
    simp only [numL, List.length_cons, Nat.pow_succ]; omega

theorem bitsL_numL (l : List Bool) : bitsL (numL l) l.length = l := by
  induction l with
  | nil => rfl
  | cons b l ih =>
    rw [List.length_cons, bitsL_succ]
    have hb : b.toNat ≤ 1 := by cases b <;> simp
    have h1 : numL (b :: l) / 2 = numL l := by simp only [numL]; omega
    have h2 : (numL (b :: l)).testBit 0 = b := by
      rw [Nat.testBit_zero]
      have : numL (b :: l) % 2 = b.toNat := by simp only [numL]; omega
      rw [this]; cases b <;> simp
    rw [h1, h2, ih]

theorem numO_bitsO (o w n : Nat) (h : n < 2 ^ w) : numO o (bitsO o n w) = n := by
  unfold numO bitsO
  split <;> simp [numL_bitsL w n h]
theorem bitsO_numO (o : Nat) (l : List Bool) : bitsO o (numO o l) l.length = l := by
  unfold numO bitsO
  split
  · exact bitsL_numL l
  · have := bitsL_numL l.reverse
    rw [List.length_reverse] at this
    rw [this, List.reverse_reverse]
theorem numO_lt (o : Nat) (l : List Bool) : numO o l < 2 ^ l.length := by
  unfold numO; split
  · exact numL_lt l
  · have := numL_lt l.reverse; simpa using this

/-- bits of bytes -/
def unpackB (o : Nat) (s : List UInt8) : List Bool := s.flatMap fun b => bitsO o b.toNat 8

/-- bits put into bytes, zeros at the end -/
def packB (o : Nat) (l : List Bool) : List UInt8 :=
  if _h : l = [] then [] else UInt8.ofNat (numO o (l.take 8 ++ List.replicate (8 - l.length) false)) :: packB o (l.drop 8)
termination_by l.length
decreasing_by
  have : l.length ≠ 0 := by simpa using _h
  simp; omega

theorem packB_nil (o : Nat) : packB o [] = [] := by rw [packB]; simp
theorem packB_cons (o : Nat) (l : List Bool) (h : l ≠ []) :
    packB o l = UInt8.ofNat (numO o (l.take 8 ++ List.replicate (8 - l.length) false)) :: packB o (l.drop 8) := by rw [packB]; simp [h]

@[simp] theorem unpackB_length (o : Nat) (s : List UInt8) : (unpackB o s).length = 8 * s.length := by
  induction s with
  | nil => rfl
  | cons b s ih => simp only [unpackB, List.flatMap_cons, List.length_append, bitsO_length, List.length_cons] at *; omega

theorem packB_length (o : Nat) (l : List Bool) : (packB o l).length = (l.length + 7) / 8 := by
  generalize hn : l.length = n
  induction n using Nat.strongRecOn generalizing l with
  | _ n ih =>
    subst hn
    by_cases hl : l = []
    · subst hl; simp [packB_nil]
    · rw [packB_cons o l hl, List.length_cons]
      have : l.length ≠ 0 := by simpa using hl
      rw [ih (l.drop 8).length (by simp; omega) (l.drop 8) rfl]
      simp; omega

/-- how many zeros are missing to a whole number of bytes -/
def missing (n : Nat) : Nat := (8 - n % 8) % 8

theorem unpackB_packB (o : Nat) (l : List Bool) : unpackB o (packB o l) = l ++ List.replicate (missing l.length) false := by
  induction h : l.length using Nat.strongRecOn generalizing l with
  | _ n ih =>
    by_cases hl : l = []
    · subst hl; simp at h; subst h; simp [packB_nil, missing, unpackB]
    · have h0 : l.length ≠ 0 := by simpa using hl
      rw [packB_cons o l hl]
      have e1 : (l.take 8 ++ List.replicate (8 - l.length) false).length = 8 := by simp; omega
      have hlt := numO_lt o (l.take 8 ++ List.replicate (8 - l.length) false)
      rw [e1] at hlt
      have e2 : (UInt8.ofNat (numO o (l.take 8 ++ List.replicate (8 - l.length) false))).toNat = numO o (l.take 8 ++ List.replicate (8 - l.length) false) := by
        rw [UInt8.toNat_ofNat']; exact Nat.mod_eq_of_lt hlt
      have e3 : bitsO o (numO o (l.take 8 ++ List.replicate (8 - l.length) false)) 8 = l.take 8 ++ List.replicate (8 - l.length) false := by
        have := bitsO_numO o (l.take 8 ++ List.replicate (8 - l.length) false)
        rwa [e1] at this
      unfold unpackB at *
      rw [List.flatMap_cons, e2, e3, ih (l.drop 8).length (by simp; omega) (l.drop 8) rfl]
      by_cases h8 : 8 ≤ l.length
      · have : 8 - l.length = 0 := by omega
        rw [this, List.replicate_zero, List.append_nil, ← List.append_assoc, List.take_append_drop]
        have : missing (l.drop 8).length = missing n := by simp [missing]; omega
        rw [this]
      · have e4 : l.drop 8 = [] := by simp; omega
        have e5 : l.take 8 = l := List.take_of_length_le (by omega)
        rw [e4, e5]; simp [missing]
        omega

/-- number of binary digits -/
def needed (n : Nat) : Nat := if n < 2 then 1 else needed (n / 2) + 1
theorem needed_lt (n : Nat) (h : n < 2) : needed n = 1 := by rw [needed]; simp [h]
theorem needed_ge (n : Nat) (h : 2 ≤ n) : needed n = needed (n / 2) + 1 := by rw [needed, if_neg (by omega)]
theorem needed_spec (n : Nat) : n < 2 ^ needed n := by
  induction n using Nat.strongRecOn with
  | _ n ih =>
    by_cases h : n < 2
    · rw [needed_lt n h]; omega
    · rw [needed_ge n (by omega), Nat.pow_succ]
      have := ih (n / 2) (by omega); omega
theorem needed_le (n w : Nat) (hw : 1 ≤ w) (h : n < 2 ^ w) : needed n ≤ w := by
  induction w generalizing n with
  | zero => omega
  | succ w ih =>
    by_cases h2 : n < 2
    · rw [needed_lt n h2]; omega
    · rw [needed_ge n (by omega)]
      rw [Nat.pow_succ] at h
      have : 1 ≤ w := by
        rcases Nat.eq_zero_or_pos w with h0 | h0
        · subst h0; simp at h; omega
        · exact h0
      have := ih (n / 2) this (by omega); omega
theorem needed_pos (n : Nat) : 1 ≤ needed n := by
  by_cases h : n < 2
  · rw [needed_lt n h]; omega
  · rw [needed_ge n (by omega)]; omega
end M

namespace M
abbrev Bytes := List UInt8

structure St where
  ord : Nat
  lit : Nat
  most : Nat

def St.c (s : St) : Nat := 2 ^ s.lit
def St.e (s : St) : Nat := 2 ^ s.lit + 1
def St.l (s : St) : Nat := 2 ^ s.most - 1
structure St.Ok (s : St) : Prop where
  ord : s.ord ≤ 1
  lit1 : 1 ≤ s.lit
  lit8 : s.lit ≤ 8
  most : s.lit + 2 ≤ s.most
  most10 : s.most ≤ 10

/-- whether three numbers are a setting -/
def okS (o l m : Int) : Bool := decide ((o = 0 ∨ o = 1) ∧ 1 ≤ l ∧ l ≤ 8 ∧ l + 2 ≤ m ∧ m ≤ 10)
theorem St.Ok.okS {s : St} (h : s.Ok) : M.okS s.ord s.lit s.most = true := by
  have h1 := h.ord; have h2 := h.lit1; have h3 := h.lit8; have h4 := h.most; have h5 := h.most10
  unfold M.okS; simp; omega
theorem okS_St {o l m : Int} (h : okS o l m = true) : ∃ s : St, s.Ok ∧ o = s.ord ∧ l = s.lit ∧ m = s.most := by
  unfold okS at h; simp at h
  exact ⟨⟨o.toNat, l.toNat, m.toNat⟩, ⟨by simp; omega, by simp; omega, by simp; omega, by simp; omega, by simp; omega⟩, by simp; omega, by simp; omega, by simp; omega⟩

theorem two_le (a b : Nat) (h : a ≤ b) : 2 ^ a ≤ 2 ^ b := Nat.pow_le_pow_right (by omega) h
theorem St.Ok.c2 {s : St} (h : s.Ok) : 2 ≤ s.c := by have := two_le 1 s.lit h.lit1; unfold St.c; omega
theorem St.Ok.c256 {s : St} (h : s.Ok) : s.c ≤ 256 := by have := two_le s.lit 8 h.lit8; unfold St.c; omega
theorem St.Ok.l4 {s : St} (h : s.Ok) : 4 * s.c ≤ s.l + 1 := by
  have := two_le (s.lit + 2) s.most h.most
  have e : 2 ^ (s.lit + 2) = 4 * 2 ^ s.lit := by rw [Nat.pow_add]; omega
  unfold St.c St.l; omega
theorem St.Ok.l1024 {s : St} (h : s.Ok) : s.l ≤ 1023 := by have := two_le s.most 10 h.most10; unfold St.l; omega
theorem St.e_eq (s : St) : s.e = s.c + 1 := rfl

structure Kn where
  s : St
  ps : List (Nat × Nat)
  base : Nat
  last : Int

/-- the word of a code, given the words of the pairs -/
def wd (c : Nat) (ws : List Bytes) (code : Nat) : Bytes := if code < c then [UInt8.ofNat code] else ws.getD (code - (c + 2)) []
def addP (c : Nat) (ws : List Bytes) (p : Nat × Nat) : List Bytes := ws ++ [wd c ws p.1 ++ [UInt8.ofNat p.2]]
def words (c : Nat) (ps : List (Nat × Nat)) : List Bytes := ps.foldl (addP c) []

theorem words_snoc (c : Nat) (ps : List (Nat × Nat)) (p : Nat × Nat) : words c (ps ++ [p]) = addP c (words c ps) p := by simp [words]
@[simp] theorem words_nil (c : Nat) : words c [] = [] := rfl

theorem foldl_addP_length (c : Nat) (ps : List (Nat × Nat)) : ∀ ws, (ps.foldl (addP c) ws).length = ws.length + ps.length := by
  induction ps with
  | nil => intro ws; rfl
  | cons p ps ih => intro ws; rw [List.foldl_cons, ih]; simp [addP]; omega
@[simp] theorem words_length (c : Nat) (ps : List (Nat × Nat)) : (words c ps).length = ps.length := by simp [words, foldl_addP_length]

theorem foldl_addP_prefix (c : Nat) (ps : List (Nat × Nat)) : ∀ ws, ∃ r, ps.foldl (addP c) ws = ws ++ r := by
  induction ps with
  | nil => intro ws; exact ⟨[], by simp⟩
  | cons p ps ih =>
    intro ws
    obtain ⟨r, hr⟩ := ih (addP c ws p)
    refine ⟨[wd c ws p.1 ++ [UInt8.ofNat p.2]] ++ r, ?_⟩
    rw [List.foldl_cons, hr]; simp [addP]

theorem words_take (c : Nat) (ps : List (Nat × Nat)) (n : Nat) : words c (ps.take n) = (words c ps).take n := by
  have h : words c ps = (ps.drop n).foldl (addP c) (words c (ps.take n)) := by
    unfold words; rw [← List.foldl_append, List.take_append_drop]
  obtain ⟨r, hr⟩ := foldl_addP_prefix c (ps.drop n) (words c (ps.take n))
  have h2 : words c ps = words c (ps.take n) ++ r := h.trans hr
  have hl : (words c (ps.take n)).length = min n ps.length := by simp
  rcases Nat.le_total n ps.length with hn | hn
  · have h3 : List.take n (words c ps) = List.take n (words c (ps.take n) ++ r) := congrArg (List.take n) h2
    rw [h3, List.take_append_of_le_length (show n ≤ (words c (ps.take n)).length by omega), List.take_of_length_le (show (words c (ps.take n)).length ≤ n by omega)]
  · rw [List.take_of_length_le (show (words c ps).length ≤ n by simpa using hn), List.take_of_length_le hn]

/-- the word of pair i -/
theorem words_get (c : Nat) (ps : List (Nat × Nat)) (i : Nat) (h : i < ps.length) :
    (words c ps)[i]? = some (wd c (words c (ps.take i)) ps[i].1 ++ [UInt8.ofNat ps[i].2]) := by
  have h1 : (words c ps)[i]? = (words c (ps.take (i + 1)))[i]? := by
    rw [words_take, List.getElem?_take, if_pos (by omega)]
  rw [h1, List.take_succ_eq_append_getElem h, words_snoc, addP, List.getElem?_append_right (by simp; omega)]
  simp
  rw [Nat.min_eq_left (by omega)]; simp

/-- a code that has a word among n pairs -/
def has (c n code : Nat) : Prop := code < c ∨ (c + 2 ≤ code ∧ code < c + 2 + n)
instance (c n code : Nat) : Decidable (has c n code) := by unfold has; infer_instance

structure PV (c : Nat) (ps : List (Nat × Nat)) : Prop where
  pre : ∀ i (h : i < ps.length), has c i ps[i].1
  byt : ∀ i (h : i < ps.length), ps[i].2 < c

theorem has.mono {c n n' code : Nat} (h : has c n code) (hn : n ≤ n') : has c n' code := by unfold has at *; omega

/-- the word of a code does not depend on later pairs -/
theorem wd_take (c : Nat) (ps : List (Nat × Nat)) (n code : Nat) (h : has c n code) : wd c (words c (ps.take n)) code = wd c (words c ps) code := by
  unfold wd
  by_cases hc : code < c
  · simp [hc]
  · rw [if_neg hc, if_neg hc, words_take]
    have : code - (c + 2) < n := by unfold has at h; omega
    simp [List.getD_eq_getElem?_getD, this]

theorem wd_lit (c : Nat) (ws : List Bytes) (code : Nat) (h : code < c) : wd c ws code = [UInt8.ofNat code] := by simp [wd, h]

theorem wd_pair (c : Nat) (ps : List (Nat × Nat)) (hv : PV c ps) (i : Nat) (h : i < ps.length) :
    wd c (words c ps) (c + 2 + i) = wd c (words c ps) ps[i].1 ++ [UInt8.ofNat ps[i].2] := by
  have e : wd c (words c ps) (c + 2 + i) = (words c ps).getD i [] := by
    unfold wd; rw [if_neg (by omega)]; congr 1; omega
  rw [e, List.getD_eq_getElem?_getD, words_get c ps i h]
  simp
  exact wd_take c ps i _ (hv.pre i h)

theorem PV.take {c : Nat} {ps : List (Nat × Nat)} (h : PV c ps) (n : Nat) : PV c (ps.take n) :=
  ⟨fun i hi => by simp at hi ⊢; exact h.pre i (by omega), fun i hi => by simp at hi ⊢; exact h.byt i (by omega)⟩
theorem PV.snoc {c : Nat} {ps : List (Nat × Nat)} (h : PV c ps) (p : Nat × Nat) (h1 : has c ps.length p.1) (h2 : p.2 < c) : PV c (ps ++ [p]) := by
  constructor
  · intro i hi
    rw [List.length_append, List.length_singleton] at hi
    by_cases hl : i < ps.length
    · rw [List.getElem_append_left hl]; exact h.pre i hl
    · have : i = ps.length := by omega
      subst this; simpa using h1
  · intro i hi
    rw [List.length_append, List.length_singleton] at hi
    by_cases hl : i < ps.length
    · rw [List.getElem_append_left hl]; exact h.byt i hl
    · have : i = ps.length := by omega
      subst this; simpa using h2
theorem PV.nil (c : Nat) : PV c [] := ⟨fun i h => absurd h (by simp), fun i h => absurd h (by simp)⟩

/-- words are not empty, and have literals alone; their first byte is a literal -/
theorem wd_ne (c : Nat) (ps : List (Nat × Nat)) (hv : PV c ps) : ∀ code, has c ps.length code → 1 ≤ (wd c (words c ps) code).length ∧ (wd c (words c ps) code).length ≤ ps.length + 1 ∧
    (c ≤ 256 → ∀ b ∈ wd c (words c ps) code, b.toNat < c) := by
  have key : ∀ n, n ≤ ps.length → ∀ code, has c n code → 1 ≤ (wd c (words c ps) code).length ∧ (wd c (words c ps) code).length ≤ n + 1 ∧ (c ≤ 256 → ∀ b ∈ wd c (words c ps) code, b.toNat < c) := by
    intro n
    induction n with
    | zero =>
      intro _ code h
      have hc : code < c := by unfold has at h; omega
      rw [wd_lit c _ code hc]
      refine ⟨by simp, by simp, fun h256 b hb => ?_⟩
      simp at hb; subst hb
      rw [UInt8.toNat_ofNat', Nat.mod_eq_of_lt (by omega)]; exact hc
    | succ n ih =>
      intro hn code h
      by_cases hc : has c n code
      · obtain ⟨a, b, d⟩ := ih (by omega) code hc
        exact ⟨a, by omega, d⟩
      · have e : code = c + 2 + n := by unfold has at h hc; omega
        subst e
        rw [wd_pair c ps hv n (by omega)]
        obtain ⟨a, b, d⟩ := ih (by omega) _ (hv.pre n (by omega))
        refine ⟨by simp, by simp; exact b, fun h256 x hx => ?_⟩
        rw [List.mem_append] at hx
        rcases hx with hx | hx
        · exact d h256 x hx
        · simp at hx; subst hx
          have := hv.byt n (by omega)
          rw [UInt8.toNat_ofNat', Nat.mod_eq_of_lt (by omega)]; exact this
  exact key ps.length (Nat.le_refl _)

namespace Kn
def W (k : Kn) (code : Nat) : Bytes := wd k.s.c (words k.s.c k.ps) code
def nxt (k : Kn) : Nat := k.s.c + 2 + k.ps.length
def grows (k : Kn) : Bool := decide (k.last ≠ -1 ∧ k.nxt ≤ k.s.l)
def greatest (k : Kn) : Nat := if k.grows then k.nxt else k.nxt - 1
def width (k : Kn) : Nat := max (k.s.lit + 1) (needed k.greatest)
/-- the word of a code that can follow -/
def A (k : Kn) (code : Nat) : Bytes := if code = k.nxt then k.W k.last.toNat ++ (k.W k.last.toNat).take 1 else k.W code
def follows (k : Kn) (code : Nat) : Prop := code < k.s.c ∨ (k.s.c + 2 ≤ code ∧ code ≤ k.greatest)
instance (k : Kn) (code : Nat) : Decidable (k.follows code) := by unfold follows; infer_instance
def cleared (k : Kn) : Kn := { k with ps := k.ps.take k.base, last := -1 }
def after (k : Kn) (code : Nat) : Kn := { k with ps := if k.grows then k.ps ++ [(k.last.toNat, ((k.A code).headD 0).toNat)] else k.ps, last := code }
def step (k : Kn) (code : Nat) : Kn := if code = k.s.c then k.cleared else k.after code
def full (k : Kn) : Bool := decide (k.s.l < k.nxt ∧ k.base < k.ps.length)

structure V (k : Kn) : Prop where
  s : k.s.Ok
  len : k.ps.length ≤ k.s.l - k.s.e
  pv : PV k.s.c k.ps
  base : k.base ≤ k.ps.length
  last : (k.last = -1 ∧ k.base = k.ps.length) ∨ (0 ≤ k.last ∧ has k.s.c k.ps.length k.last.toNat)

section
variable {k : Kn} (h : k.V)
include h
theorem V.nxt_le : k.nxt ≤ k.s.l + 1 := by have := h.len; have := h.s.l4; have := h.s.c2; unfold nxt; rw [St.e_eq] at *; omega
theorem V.greatest_le : k.greatest ≤ k.s.l := by
  have h1 := h.nxt_le
  unfold greatest; split
  · rename_i hg; unfold grows at hg; simp at hg; omega
  · have := h.s.c2; unfold nxt at *; omega
omit h in
theorem V.greatest_lt_width : k.greatest < 2 ^ k.width := by
  have := needed_spec k.greatest
  have := two_le (needed k.greatest) k.width (by unfold width; omega)
  omega
theorem V.c_lt_width : k.s.c + 1 < 2 ^ k.width := by
  have h2 := two_le (k.s.lit + 1) k.width (by unfold width; omega)
  have h3 : 2 ^ (k.s.lit + 1) = 2 * k.s.c := by unfold St.c; rw [Nat.pow_succ]; omega
  rcases Nat.lt_or_ge k.s.c 3 with h4 | h4
  · have h5 := h.s.c2
    have h6 : k.s.c = 2 := by omega
    have : k.s.c + 1 ≤ k.greatest := by unfold greatest nxt; split <;> omega
    have := V.greatest_lt_width (k := k); omega
  · omega
theorem V.width_le : k.width ≤ 10 := by
  have h1 := h.greatest_le
  have h2 := h.s.l1024
  have := needed_le k.greatest 10 (by omega) (by have : (2:Nat)^10 = 1024 := by decide
                                                 omega)
  have := h.s.lit8
  unfold width; omega
theorem V.width_ge : 2 ≤ k.width := by have := h.s.lit1; unfold width; omega

theorem V.has_last (hl : k.last ≠ -1) : has k.s.c k.ps.length k.last.toNat := by
  rcases h.last with ⟨h1, _⟩ | ⟨_, h2⟩
  · exact absurd h1 hl
  · exact h2
theorem V.grows_last (hg : k.grows = true) : has k.s.c k.ps.length k.last.toNat ∧ 0 ≤ k.last ∧ k.nxt ≤ k.s.l := by
  unfold grows at hg; simp at hg
  refine ⟨h.has_last hg.1, ?_, hg.2⟩
  rcases h.last with ⟨h1, _⟩ | ⟨h2, _⟩
  · exact absurd h1 hg.1
  · exact h2
theorem V.follows_iff (code : Nat) : k.follows code ↔ has k.s.c k.ps.length code ∨ (k.grows = true ∧ code = k.nxt) := by
  have := h.s.c2
  unfold follows greatest has nxt
  by_cases hg : k.grows = true
  · simp [hg]; omega
  · simp [hg]; omega
/-- words of codes that can follow -/
theorem V.A_ne {code : Nat} (hf : k.follows code) : 1 ≤ (k.A code).length ∧ (k.A code).length ≤ k.ps.length + 2 ∧ ∀ b ∈ k.A code, b.toNat < k.s.c := by
  unfold A
  split
  · rename_i e
    have hg : k.grows = true := by
      rcases (h.follows_iff code).1 hf with h1 | h1
      · unfold has at h1; unfold nxt at e; have := h.s.c2; omega
      · exact h1.1
    obtain ⟨h1, h2, h3⟩ := wd_ne k.s.c k.ps h.pv _ (h.grows_last hg).1
    refine ⟨by simp [W]; omega, by simp [W]; omega, fun b hb => ?_⟩
    rw [List.mem_append] at hb
    rcases hb with hb | hb
    · exact h3 h.s.c256 b hb
    · exact h3 h.s.c256 b (List.mem_of_mem_take hb)
  · rename_i e
    have hh : has k.s.c k.ps.length code := by
      rcases (h.follows_iff code).1 hf with h1 | h1
      · exact h1
      · exact absurd h1.2 e
    obtain ⟨h1, h2, h3⟩ := wd_ne k.s.c k.ps h.pv _ hh
    exact ⟨h1, by unfold W; omega, h3 h.s.c256⟩
theorem V.cleared : k.cleared.V := by
  have hb := h.base
  refine ⟨h.s, ?_, h.pv.take _, ?_, Or.inl ⟨rfl, ?_⟩⟩
  · have := h.len; simp [Kn.cleared]; omega
  · simp [Kn.cleared]; omega
  · simp [Kn.cleared]; omega
theorem V.after {code : Nat} (hf : k.follows code) : (k.after code).V := by
  have hc := h.s.c2
  have hA := h.A_ne hf
  have hff := (h.follows_iff code).1 hf
  by_cases hg : k.grows = true
  · obtain ⟨g1, g2, g3⟩ := h.grows_last hg
    have hb : ((k.A code).headD 0).toNat < k.s.c := by
      cases hl : k.A code with
      | nil => rw [hl] at hA; simp at hA
      | cons b t => exact hA.2.2 b (by rw [hl]; simp)
    refine ⟨h.s, ?_, ?_, ?_, Or.inr ⟨by simp [Kn.after], ?_⟩⟩
    · have := h.s.l4; unfold nxt at g3; simp [Kn.after, hg, St.e_eq]; omega
    · simp only [Kn.after, hg, if_true]; exact h.pv.snoc _ g1 hb
    · have := h.base; simp [Kn.after, hg]; omega
    · simp [Kn.after, hg]
      unfold has nxt at *
      rcases hff with h1 | h1 <;> omega
  · refine ⟨h.s, ?_, ?_, ?_, Or.inr ⟨by simp [Kn.after], ?_⟩⟩
    · simp [Kn.after, hg]; exact h.len
    · simp only [Kn.after, hg]; exact h.pv
    · simp [Kn.after, hg]; exact h.base
    · simp [Kn.after, hg]
      rcases hff with h1 | h1
      · exact h1
      · exact absurd h1.1 hg
theorem V.step {code : Nat} (hf : code = k.s.c ∨ k.follows code) : (k.step code).V := by
  unfold Kn.step; split
  · exact h.cleared
  · rename_i hn
    rcases hf with h1 | h1
    · exact absurd h1 hn
    · exact h.after h1
end
@[simp] theorem step_s (k : Kn) (code : Nat) : (k.step code).s = k.s := by unfold step; split <;> rfl
@[simp] theorem after_s (k : Kn) (code : Nat) : (k.after code).s = k.s := rfl
@[simp] theorem cleared_s (k : Kn) : (k.cleared).s = k.s := rfl
@[simp] theorem step_base (k : Kn) (code : Nat) : (k.step code).base = k.base := by unfold step; split <;> rfl
end Kn
def start (s : St) : Kn := ⟨s, [], 0, -1⟩
theorem start_V {s : St} (h : s.Ok) : (start s).V := ⟨h, by simp [start], PV.nil _, Nat.le_refl _, Or.inl ⟨rfl, rfl⟩⟩
end M

namespace M
namespace Kn

def codes (k : Kn) : List Nat := List.range' (k.s.c + 2) (k.greatest + 1 - (k.s.c + 2))
def longStep (k : Kn) (d : Bytes) (best : Bytes) (code : Nat) : Bytes := if best.length < (k.A code).length ∧ k.A code <+: d then k.A code else best
def longW (k : Kn) (d : Bytes) : Bytes := k.codes.foldl (longStep k d) (d.take 1)
def find (k : Kn) (w : Bytes) : Option Nat :=
  if w.length = 1 ∧ (w.headD 0).toNat < k.s.c then some (w.headD 0).toNat else k.codes.find? (fun code => decide (k.A code = w))

structure IsLong (k : Kn) (d w : Bytes) : Prop where
  code : ∃ code, k.follows code ∧ k.A code = w
  pre : w <+: d
  max : ∀ code, k.follows code → k.A code <+: d → (k.A code).length ≤ w.length

theorem IsLong.unique {k : Kn} {d w w' : Bytes} (h : IsLong k d w) (h' : IsLong k d w') : w = w' := by
  obtain ⟨c1, f1, e1⟩ := h.code
  obtain ⟨c2, f2, e2⟩ := h'.code
  have l1 := h.max c2 f2 (by rw [e2]; exact h'.pre)
  have l2 := h'.max c1 f1 (by rw [e1]; exact h.pre)
  rw [e2] at l1; rw [e1] at l2
  rw [List.prefix_iff_eq_take.1 h.pre, List.prefix_iff_eq_take.1 h'.pre]
  congr 1; omega

theorem mem_codes (k : Kn) (code : Nat) : code ∈ k.codes ↔ k.s.c + 2 ≤ code ∧ code ≤ k.greatest := by
  unfold codes; rw [List.mem_range'_1]; omega

theorem A_lit {k : Kn} (_h : k.V) {b : Nat} (hb : b < k.s.c) : k.A b = [UInt8.ofNat b] := by
  unfold A
  rw [if_neg (by unfold nxt; omega)]; exact wd_lit _ _ _ hb

theorem foldl_long (k : Kn) (d : Bytes) (l : List Nat) : ∀ best, (∃ code, k.follows code ∧ k.A code = best) → best <+: d → (∀ c ∈ l, k.follows c) →
    (∃ code, k.follows code ∧ k.A code = l.foldl (longStep k d) best) ∧ l.foldl (longStep k d) best <+: d ∧ best.length ≤ (l.foldl (longStep k d) best).length ∧
    ∀ c ∈ l, k.A c <+: d → (k.A c).length ≤ (l.foldl (longStep k d) best).length := by
  induction l with
  | nil => intro best h1 h2 _; exact ⟨h1, h2, Nat.le_refl _, by simp⟩
  | cons c l ih =>
    intro best h1 h2 h3
    rw [List.foldl_cons]
    have hs : (∃ code, k.follows code ∧ k.A code = longStep k d best c) ∧ longStep k d best c <+: d ∧ best.length ≤ (longStep k d best c).length ∧
        (k.A c <+: d → (k.A c).length ≤ (longStep k d best c).length) := by
      unfold longStep
      split
      · rename_i hh; exact ⟨⟨c, h3 c (by simp), rfl⟩, hh.2, by omega, fun _ => Nat.le_refl _⟩
      · rename_i hh; exact ⟨h1, h2, Nat.le_refl _, fun hp => by
          rcases Nat.lt_or_ge best.length (k.A c).length with h4 | h4
          · exact absurd ⟨h4, hp⟩ hh
          · exact h4⟩
    obtain ⟨a1, a2, a3, a4⟩ := ih (longStep k d best c) hs.1 hs.2.1 (fun x hx => h3 x (by simp [hx]))
    refine ⟨a1, a2, by omega, fun x hx hp => ?_⟩
    rcases List.mem_cons.1 hx with rfl | hx
    · have := hs.2.2.2 hp; omega
    · exact a4 x hx hp

theorem longW_spec {k : Kn} (h : k.V) {d : Bytes} (hd : d ≠ []) (hb : (d.headD 0).toNat < k.s.c) : IsLong k d (k.longW d) := by
  obtain ⟨b, t, rfl⟩ : ∃ b t, d = b :: t := by cases d with | nil => exact absurd rfl hd | cons b t => exact ⟨b, t, rfl⟩
  simp at hb
  have h0 : k.A b.toNat = [b] := by rw [A_lit h hb]; simp
  obtain ⟨a1, a2, a3, a4⟩ := foldl_long k (b :: t) k.codes [b] ⟨b.toNat, Or.inl hb, h0⟩ (by simp) (fun c hc => Or.inr ((mem_codes k c).1 hc))
  refine ⟨a1, a2, fun code hf hp => ?_⟩
  rcases hf with hl | hl
  · rw [A_lit h hl]; exact a3
  · exact a4 code ((mem_codes k code).2 hl) hp

theorem range'_find (p : Nat → Bool) : ∀ n a, (∀ m, (List.range' a n).find? p = some m → p m = true ∧ a ≤ m ∧ m < a + n ∧ ∀ m', a ≤ m' → m' < m → p m' = false) ∧
    ((List.range' a n).find? p = none → ∀ m', a ≤ m' → m' < a + n → p m' = false) := by
  intro n
  induction n with
  | zero => intro a; exact ⟨fun m hm => by simp at hm, fun _ m' h1 h2 => by omega⟩
  | succ n ih =>
    intro a
    rw [List.range'_succ, List.find?_cons]
    by_cases hp : p a = true
    · simp only [hp]
      refine ⟨fun m hm => ?_, fun hm => by simp at hm⟩
      simp at hm; subst hm
      exact ⟨hp, Nat.le_refl _, by omega, fun m' h1 h2 => by omega⟩
    · have hp' : p a = false := by simpa using hp
      simp only [hp']
      obtain ⟨i1, i2⟩ := ih (a + 1)
      refine ⟨fun m hm => ?_, fun hm m' h1 h2 => ?_⟩
      · obtain ⟨b1, b2, b3, b4⟩ := i1 m hm
        refine ⟨b1, by omega, by omega, fun m' h1 h2 => ?_⟩
        by_cases e : m' = a
        · rw [e]; exact hp'
        · exact b4 m' (by omega) h2
      · by_cases e : m' = a
        · rw [e]; exact hp'
        · exact i2 hm m' (by omega) (by omega)

/-- the least code with a word -/
theorem find_spec {k : Kn} (h : k.V) {w : Bytes} {code : Nat} (hf : k.follows code) (hw : k.A code = w) :
    ∃ m, k.find w = some m ∧ k.follows m ∧ k.A m = w ∧ ∀ m', k.follows m' → k.A m' = w → m ≤ m' := by
  unfold find
  split
  · rename_i hl
    obtain ⟨b, rfl⟩ : ∃ b, w = [b] := by
      obtain ⟨hl, _⟩ := hl
      match w, hl with
      | [b], _ => exact ⟨b, rfl⟩
    have hb : b.toNat < k.s.c := by simpa using hl.2
    refine ⟨b.toNat, rfl, Or.inl hb, by rw [A_lit h hb]; simp, fun m' hm hA => ?_⟩
    rcases hm with hm | hm
    · rw [A_lit h hm] at hA
      have e : UInt8.ofNat m' = b := by simpa using hA
      have := h.s.c256
      rw [← e, UInt8.toNat_ofNat', Nat.mod_eq_of_lt (by omega)]; simp
    · show b.toNat ≤ m'; omega
  · rename_i hl
    have hc : k.s.c + 2 ≤ code ∧ code ≤ k.greatest := by
      rcases hf with hf | hf
      · exfalso; apply hl
        rw [← hw, A_lit h hf]
        have := h.s.c256
        simp
        omega
      · exact hf
    obtain ⟨i1, i2⟩ := range'_find (fun code => decide (k.A code = w)) (k.greatest + 1 - (k.s.c + 2)) (k.s.c + 2)
    cases hfi : k.codes.find? (fun code => decide (k.A code = w)) with
    | none =>
      have := i2 hfi code hc.1 (by omega)
      simp [hw] at this
    | some m =>
      obtain ⟨b1, b2, b3, b4⟩ := i1 m hfi
      refine ⟨m, rfl, Or.inr ⟨b2, by omega⟩, by simpa using b1, fun m' hm hA => ?_⟩
      rcases hm with hm | hm
      · exfalso; apply hl
        rw [← hA, A_lit h hm]
        have := h.s.c256
        simp
        omega
      · rcases Nat.lt_or_ge m' m with h5 | h5
        · have := b4 m' hm.1 h5; simp [hA] at this
        · exact h5

/-- the code of the longest word -/
def longF (k : Kn) (d : Bytes) : Nat := (k.find (k.longW d)).getD 0

theorem longF_spec {k : Kn} (h : k.V) {d : Bytes} (hd : d ≠ []) (hb : (d.headD 0).toNat < k.s.c) :
    k.find (k.longW d) = some (k.longF d) ∧ k.follows (k.longF d) ∧ k.A (k.longF d) = k.longW d ∧ 1 ≤ (k.longW d).length ∧ (k.longW d).length ≤ d.length ∧ k.longW d = d.take (k.longW d).length := by
  have hl := longW_spec h hd hb
  obtain ⟨code, hf, hA⟩ := hl.code
  obtain ⟨m, m1, m2, m3, _⟩ := find_spec h hf hA
  have e : k.longF d = m := by unfold longF; rw [m1]; rfl
  rw [e]
  refine ⟨m1, m2, m3, ?_, hl.pre.length_le, List.prefix_iff_eq_take.1 hl.pre⟩
  rw [← m3]; exact (h.A_ne m2).1

/-- the length of the longest word -/
def cut (k : Kn) (d : Bytes) : Nat := max 1 (k.longW d).length

def greedy (k : Kn) (d : Bytes) : List Nat :=
  if _h : d = [] then [] else
    if d.drop (k.cut d) ≠ [] ∧ (k.after (k.longF d)).full = true then
      k.longF d :: k.s.c :: greedy (k.after (k.longF d)).cleared (d.drop (k.cut d))
    else k.longF d :: greedy (k.after (k.longF d)) (d.drop (k.cut d))
termination_by d.length
decreasing_by
  all_goals (have : d.length ≠ 0 := by simpa using _h); simp [cut]; omega
def greedyCodes (k : Kn) (d : Bytes) : List Nat := k.s.c :: (greedy k.cleared d ++ [k.s.e])

def lrn (k : Kn) (d : Bytes) : Kn := if _h : d = [] then k else lrn (k.after (k.longF d)) (d.drop (k.cut d))
termination_by d.length
decreasing_by
  (have : d.length ≠ 0 := by simpa using _h); simp [cut]; omega
def learnK (k : Kn) (d : Bytes) : Kn := { lrn k.cleared d with base := (lrn k.cleared d).ps.length, last := -1 }

theorem greedy_nil (k : Kn) : greedy k [] = [] := by rw [greedy]; simp
theorem greedy_cons (k : Kn) (d : Bytes) (h : d ≠ []) : greedy k d = if d.drop (k.cut d) ≠ [] ∧ (k.after (k.longF d)).full = true then
      k.longF d :: k.s.c :: greedy (k.after (k.longF d)).cleared (d.drop (k.cut d))
    else k.longF d :: greedy (k.after (k.longF d)) (d.drop (k.cut d)) := by rw [greedy, dif_neg h]
theorem lrn_nil (k : Kn) : lrn k [] = k := by rw [lrn]; simp
theorem lrn_cons (k : Kn) (d : Bytes) (h : d ≠ []) : lrn k d = lrn (k.after (k.longF d)) (d.drop (k.cut d)) := by rw [lrn, dif_neg h]

def fits (c : Nat) (d : Bytes) : Prop := ∀ b ∈ d, b.toNat < c
theorem fits.head {c : Nat} {d : Bytes} (h : fits c d) (hd : d ≠ []) : (d.headD 0).toNat < c := by
  cases d with | nil => exact absurd rfl hd | cons b t => exact h b (by simp)
theorem fits.drop {c : Nat} {d : Bytes} (h : fits c d) (n : Nat) : fits c (d.drop n) := fun b hb => h b (List.mem_of_mem_drop hb)
theorem fits.take {c : Nat} {d : Bytes} (h : fits c d) (n : Nat) : fits c (d.take n) := fun b hb => h b (List.mem_of_mem_take hb)

theorem cut_eq {k : Kn} (h : k.V) {d : Bytes} (hd : d ≠ []) (hf : fits k.s.c d) : k.cut d = (k.longW d).length := by
  have := (longF_spec h hd (hf.head hd)).2.2.2.1
  unfold cut; omega
theorem drop_lt (k : Kn) {d : Bytes} (hd : d ≠ []) : (d.drop (k.cut d)).length < d.length := by
  have : d.length ≠ 0 := by simpa using hd
  simp [cut]; omega

/-- an induction over what is left of the data -/
theorem rest_ind {P : Kn → Bytes → Prop} (h0 : ∀ k, P k []) (h1 : ∀ k d, d ≠ [] → (∀ k', P k' (d.drop (k.cut d))) → P k d) : ∀ k d, P k d := by
  intro k d
  generalize hn : d.length = n
  induction n using Nat.strongRecOn generalizing k d with
  | _ n ih =>
    by_cases hd : d = []
    · subst hd; exact h0 k
    · exact h1 k d hd (fun k' => ih _ (by have := drop_lt k hd; omega) k' _ rfl)

theorem lrn_V (k : Kn) (d : Bytes) : k.V → fits k.s.c d → (lrn k d).V ∧ (lrn k d).s = k.s := by
  revert k d
  apply rest_ind (P := fun k d => k.V → fits k.s.c d → (lrn k d).V ∧ (lrn k d).s = k.s)
  · intro k h _; rw [lrn_nil]; exact ⟨h, rfl⟩
  · intro k d hn ih h hd
    rw [lrn_cons k d hn]
    obtain ⟨_, h2, _⟩ := longF_spec h hn (hd.head hn)
    exact ih _ (h.after h2) (hd.drop _)
theorem learnK_V {k : Kn} (h : k.V) {d : Bytes} (hd : fits k.s.c d) : (learnK k d).V ∧ (learnK k d).s = k.s := by
  obtain ⟨h1, h2⟩ := lrn_V k.cleared d h.cleared hd
  exact ⟨⟨h1.s, h1.len, h1.pv, Nat.le_refl _, Or.inl ⟨rfl, rfl⟩⟩, h2⟩

/-- codes that can follow one after the other, the end code at the end -/
def okC : Kn → List Nat → Prop
  | _, [] => False
  | k, code :: cs => (code = k.s.e ∧ cs = []) ∨ (code ≠ k.s.e ∧ (code = k.s.c ∨ k.follows code) ∧ okC (k.step code) cs)
/-- the word of a code; nothing for the clear code -/
def out (k : Kn) (code : Nat) : Bytes := if code = k.s.c then [] else k.A code
/-- their data -/
def dat : Kn → List Nat → Bytes
  | _, [] => []
  | k, code :: cs => if code = k.s.e then [] else k.out code ++ dat (k.step code) cs
/-- their widths -/
def widths : Kn → List Nat → List Nat
  | _, [] => []
  | k, code :: cs => k.width :: widths (k.step code) cs
/-- their bits -/
def enc : Kn → List Nat → List Bool
  | _, [] => []
  | k, code :: cs => bitsO k.s.ord code k.width ++ enc (k.step code) cs

theorem V.follows_ne {k : Kn} (_h : k.V) {code : Nat} (hf : k.follows code) : code ≠ k.s.c ∧ code ≠ k.s.e := by
  unfold follows at hf; rw [St.e_eq]; omega
theorem V.follows_lt {k : Kn} (h : k.V) {code : Nat} (hf : k.follows code) : code < 2 ^ k.width := by
  have h1 := h.c_lt_width
  have h2 := V.greatest_lt_width (k := k)
  unfold follows at hf; omega

theorem longF_follows {k : Kn} (h : k.V) {d : Bytes} (hd : d ≠ []) (hf : fits k.s.c d) : k.follows (k.longF d) := (longF_spec h hd (hf.head hd)).2.1
theorem longF_A {k : Kn} (h : k.V) {d : Bytes} (hd : d ≠ []) (hf : fits k.s.c d) : k.A (k.longF d) = d.take (k.cut d) := by
  have h1 := longF_spec h hd (hf.head hd)
  rw [cut_eq h hd hf, h1.2.2.1]; exact h1.2.2.2.2.2

theorem step_after {k : Kn} (h : k.V) {code : Nat} (hf : k.follows code) : k.step code = k.after code := by
  unfold step; rw [if_neg (h.follows_ne hf).1]
theorem step_clear (k : Kn) : k.step k.s.c = k.cleared := by unfold step; rw [if_pos rfl]

theorem c_ne_e (k : Kn) : k.s.c ≠ k.s.e := by rw [St.e_eq]; omega

theorem greedy_ok (k : Kn) (d : Bytes) : k.V → fits k.s.c d → okC k (greedy k d ++ [k.s.e]) ∧ dat k (greedy k d ++ [k.s.e]) = d := by
  revert k d
  apply rest_ind (P := fun k d => k.V → fits k.s.c d → okC k (greedy k d ++ [k.s.e]) ∧ dat k (greedy k d ++ [k.s.e]) = d)
  · intro k _ _; rw [greedy_nil]; simp [okC, dat]
  · intro k d hn ih h hd
    have hf := longF_follows h hn hd
    have hA := longF_A h hn hd
    obtain ⟨n1, n2⟩ := h.follows_ne hf
    have hV := h.after hf
    rw [greedy_cons k d hn]
    split
    · obtain ⟨i1, i2⟩ := ih (k.after (k.longF d)).cleared hV.cleared (hd.drop _)
      have e1 : (k.after (k.longF d)).s.c = k.s.c := rfl
      have e2 : k.s.c ≠ k.s.e := c_ne_e k
      simp only [List.cons_append, okC, dat, out, step_after h hf, n1, n2, if_false]
      rw [if_neg (show ¬ k.s.c = (k.after (k.longF d)).s.e from e2), if_pos (show k.s.c = (k.after (k.longF d)).s.c from rfl)]
      have e3 : (k.after (k.longF d)).step k.s.c = (k.after (k.longF d)).cleared := step_clear (k.after (k.longF d))
      rw [e3, hA]
      refine ⟨Or.inr ⟨n2, Or.inr hf, Or.inr ⟨e2, Or.inl rfl, i1⟩⟩, ?_⟩
      rw [List.nil_append]
      exact (congrArg _ i2).trans (List.take_append_drop _ _)
    · obtain ⟨i1, i2⟩ := ih (k.after (k.longF d)) hV (hd.drop _)
      simp only [List.cons_append, okC, dat, out, step_after h hf, n1, n2, if_false]
      rw [hA]
      refine ⟨Or.inr ⟨n2, Or.inr hf, i1⟩, ?_⟩
      exact (congrArg _ i2).trans (List.take_append_drop _ _)

theorem greedyCodes_ok {k : Kn} (h : k.V) {d : Bytes} (hd : fits k.s.c d) : okC k (greedyCodes k d) ∧ dat k (greedyCodes k d) = d := by
  obtain ⟨h1, h2⟩ := greedy_ok k.cleared d h.cleared hd
  unfold greedyCodes
  simp only [okC, dat, out, step_clear, c_ne_e, if_false, if_true, List.nil_append]
  exact ⟨Or.inr ⟨c_ne_e k, by simp, h1⟩, h2⟩

theorem greedy_len (k : Kn) (d : Bytes) : (greedy k d).length ≤ 2 * d.length := by
  revert k d
  apply rest_ind (P := fun k d => (greedy k d).length ≤ 2 * d.length)
  · intro k; rw [greedy_nil]; simp
  · intro k d hn ih
    have h1 := drop_lt k hn
    rw [greedy_cons k d hn]
    split
    · have := ih (k.after (k.longF d)).cleared; simp only [List.length_cons]; omega
    · have := ih (k.after (k.longF d)); simp only [List.length_cons]; omega
theorem greedyCodes_len (k : Kn) (d : Bytes) : (greedyCodes k d).length ≤ 2 * d.length + 2 := by
  have := greedy_len k.cleared d; simp [greedyCodes]; omega

theorem enc_len (cs : List Nat) : ∀ (k : Kn), k.V → okC k cs → (enc k cs).length ≤ 10 * cs.length ∧ cs.length ≤ (enc k cs).length := by
  induction cs with
  | nil => intro k _ _; simp [enc]
  | cons code cs ih =>
    intro k h ho
    have hw := h.width_le
    have hw2 := h.width_ge
    simp only [enc, List.length_append, bitsO_length, List.length_cons]
    rcases ho with ⟨_, rfl⟩ | ⟨_, h2, h3⟩
    · simp [enc]; omega
    · have := ih _ (h.step h2) h3; omega
end Kn
end M

namespace M
namespace Kn

/-- what is read: codes, how it ends, bits used -/
structure Rd where
  codes : List Nat
  fin : Nat
  used : Nat

def dec (k : Kn) (bs : List Bool) (size n : Nat) : Rd :=
  if _h : bs.length < k.width then ⟨[], 1, 0⟩
  else
    if numO k.s.ord (bs.take k.width) = k.s.e then ⟨[numO k.s.ord (bs.take k.width)], 0, k.width⟩
    else if ¬ (numO k.s.ord (bs.take k.width) = k.s.c ∨ k.follows (numO k.s.ord (bs.take k.width))) then ⟨[], 2, k.width⟩
    else if 2000 < size + (k.out (numO k.s.ord (bs.take k.width))).length then ⟨[], 3, k.width⟩
    else if 3100 ≤ n + 1 then ⟨[numO k.s.ord (bs.take k.width)], 3, k.width⟩
    else
      ⟨numO k.s.ord (bs.take k.width) :: (dec (k.step (numO k.s.ord (bs.take k.width))) (bs.drop k.width) (size + (k.out (numO k.s.ord (bs.take k.width))).length) (n + 1)).codes,
        (dec (k.step (numO k.s.ord (bs.take k.width))) (bs.drop k.width) (size + (k.out (numO k.s.ord (bs.take k.width))).length) (n + 1)).fin,
        k.width + (dec (k.step (numO k.s.ord (bs.take k.width))) (bs.drop k.width) (size + (k.out (numO k.s.ord (bs.take k.width))).length) (n + 1)).used⟩
termination_by bs.length
decreasing_by
  all_goals (have : 1 ≤ k.width := by unfold width; omega); simp; omega

/-- one step, with names -/
theorem dec_step (k : Kn) (bs : List Bool) (size n : Nat) (h : k.width ≤ bs.length) {code : Nat} (hc : numO k.s.ord (bs.take k.width) = code) :
    dec k bs size n = if code = k.s.e then ⟨[code], 0, k.width⟩ else if ¬ (code = k.s.c ∨ k.follows code) then ⟨[], 2, k.width⟩
      else if 2000 < size + (k.out code).length then ⟨[], 3, k.width⟩ else if 3100 ≤ n + 1 then ⟨[code], 3, k.width⟩
      else ⟨code :: (dec (k.step code) (bs.drop k.width) (size + (k.out code).length) (n + 1)).codes,
        (dec (k.step code) (bs.drop k.width) (size + (k.out code).length) (n + 1)).fin,
        k.width + (dec (k.step code) (bs.drop k.width) (size + (k.out code).length) (n + 1)).used⟩ := by
  rw [dec, dif_neg (by omega), hc]
theorem dec_short (k : Kn) (bs : List Bool) (size n : Nat) (h : bs.length < k.width) : dec k bs size n = ⟨[], 1, 0⟩ := by rw [dec, dif_pos h]

/-- a stream of codes that can follow is read as these codes -/
theorem dec_enc (cs : List Nat) : ∀ (k : Kn) (junk : List Bool) (size n : Nat), k.V → okC k cs → size + (dat k cs).length ≤ 2000 → n + cs.length ≤ 3100 →
    dec k (enc k cs ++ junk) size n = ⟨cs, 0, (enc k cs).length⟩ := by
  induction cs with
  | nil => intro k junk size n _ ho; exact absurd ho (by simp [okC])
  | cons code cs ih =>
    intro k junk size n h ho hs hn
    have hlt : code < 2 ^ k.width := by
      rcases ho with ⟨h1, _⟩ | ⟨_, h1 | h1, _⟩
      · have := h.c_lt_width; rw [h1, St.e_eq]; exact this
      · have := h.c_lt_width; omega
      · exact h.follows_lt h1
    have e1 : enc k (code :: cs) ++ junk = bitsO k.s.ord code k.width ++ (enc (k.step code) cs ++ junk) := by simp [enc]
    have e2 : (enc k (code :: cs) ++ junk).take k.width = bitsO k.s.ord code k.width := by
      rw [e1, List.take_append_of_le_length (by simp), List.take_of_length_le (by simp)]
    have e3 : (enc k (code :: cs) ++ junk).drop k.width = enc (k.step code) cs ++ junk := by
      rw [e1, List.drop_append_of_le_length (by simp), List.drop_of_length_le (by simp), List.nil_append]
    rw [dec_step k _ size n (by simp [enc]) (code := code) (by rw [e2]; exact numO_bitsO _ _ _ hlt), e3]
    rcases ho with ⟨h1, rfl⟩ | ⟨h1, h2, h3⟩
    · rw [if_pos h1]; simp [enc]
    · have hd : dat k (code :: cs) = k.out code ++ dat (k.step code) cs := by rw [dat, if_neg h1]
      rw [hd, List.length_append] at hs
      have hcs : cs ≠ [] := by rintro rfl; simp [okC] at h3
      have hcl : 1 ≤ cs.length := by cases cs with | nil => exact absurd rfl hcs | cons => simp
      rw [List.length_cons] at hn
      rw [if_neg h1, if_neg (fun x => x h2), if_neg (by omega), if_neg (by omega),
        ih (k.step code) junk _ (n + 1) (h.step h2) h3 (by omega) (by omega)]
      simp [enc]

def compress (k : Kn) (d : Bytes) : Bytes := packB k.s.ord (enc k (greedyCodes k d))
def readS (k : Kn) (s : Bytes) : Rd := dec k (unpackB k.s.ord s) 0 0
def usedB (s : Bytes) (r : Rd) : Nat := if r.fin = 1 then s.length else (r.used + 7) / 8

theorem compress_len {k : Kn} (h : k.V) {d : Bytes} (hd : fits k.s.c d) : (enc k (greedyCodes k d)).length ≤ 20 * d.length + 20 := by
  have h1 := greedyCodes_len k d
  have h2 := enc_len _ k h (greedyCodes_ok h hd).1
  omega

theorem roundtrip {k : Kn} (h : k.V) {d : Bytes} (hd : fits k.s.c d) (hl : d.length ≤ 1000) :
    readS k (compress k d) = ⟨greedyCodes k d, 0, (enc k (greedyCodes k d)).length⟩ ∧ dat k (greedyCodes k d) = d ∧ usedB (compress k d) (readS k (compress k d)) = (compress k d).length := by
  obtain ⟨h1, h2⟩ := greedyCodes_ok h hd
  have h3 : readS k (compress k d) = ⟨greedyCodes k d, 0, (enc k (greedyCodes k d)).length⟩ := by
    unfold readS compress
    rw [unpackB_packB]
    exact dec_enc _ k _ 0 0 h h1 (by rw [h2]; omega) (by have := greedyCodes_len k d; omega)
  refine ⟨h3, h2, ?_⟩
  rw [h3]; unfold usedB compress
  rw [packB_length]; simp

/-- the codes that are read can follow each other; what else is known of them -/
theorem dec_ok (bs : List Bool) : ∀ (k : Kn) (size n : Nat), k.V → (dec k bs size n).fin = 0 →
    okC k (dec k bs size n).codes ∧ (dec k bs size n).used = (enc k (dec k bs size n).codes).length ∧ (dec k bs size n).used ≤ bs.length ∧
    size + (dat k (dec k bs size n).codes).length ≤ max size 2000 ∧ n + (dec k bs size n).codes.length ≤ max (n + 1) 3100 ∧
    bs.take (dec k bs size n).used = enc k (dec k bs size n).codes := by
  generalize hm : bs.length = m
  induction m using Nat.strongRecOn generalizing bs with
  | _ m ih =>
    intro k size n h hf
    have hw := h.width_ge
    rcases Nat.lt_or_ge bs.length k.width with hl | hl
    · rw [dec_short k bs size n hl] at hf; simp at hf
    · obtain ⟨code, hc⟩ : ∃ code, numO k.s.ord (bs.take k.width) = code := ⟨_, rfl⟩
      have hb : bitsO k.s.ord code k.width = bs.take k.width := by
        have := bitsO_numO k.s.ord (bs.take k.width)
        rw [List.length_take, Nat.min_eq_left hl, hc] at this; exact this
      rw [dec_step k bs size n hl hc] at hf ⊢
      split at hf
      · rename_i he
        simp only [he, if_true]
        subst hm
        rw [he] at hb
        refine ⟨Or.inl ⟨rfl, rfl⟩, by simp [enc], hl, by simp [dat]; omega, by simp; omega, by simp [enc, hb]⟩
      · rename_i he
        split at hf
        · simp at hf
        · rename_i hfo
          have hfo' : code = k.s.c ∨ k.follows code := Decidable.not_not.1 hfo
          split at hf
          · simp at hf
          · rename_i hsz
            split at hf
            · simp at hf
            · rename_i hn
              simp only [] at hf
              rw [if_neg he, if_neg hfo, if_neg hsz, if_neg hn]
              obtain ⟨i1, i2, i3, i4, i5, i6⟩ := ih (bs.drop k.width).length (by simp; omega) (bs.drop k.width) rfl (k.step code) _ (n + 1) (h.step hfo') hf
              have hll : (bs.drop k.width).length + k.width = m := by simp; omega
              refine ⟨Or.inr ⟨he, hfo', i1⟩, by simp [enc, i2], by simp only []; omega, ?_, ?_, ?_⟩
              · simp only [dat, if_neg he, List.length_append]; omega
              · simp only [List.length_cons]; omega
              · simp only [enc]
                rw [hb, ← i6, ← List.take_add]

/-- the other order of bits -/
def flip (k : Kn) : Kn := { k with s := { k.s with ord := 1 - k.s.ord } }
section
variable (k : Kn)
@[simp] theorem flip_c : k.flip.s.c = k.s.c := rfl
@[simp] theorem flip_e : k.flip.s.e = k.s.e := rfl
@[simp] theorem flip_l : k.flip.s.l = k.s.l := rfl
@[simp] theorem flip_ord : k.flip.s.ord = 1 - k.s.ord := rfl
@[simp] theorem flip_nxt : k.flip.nxt = k.nxt := rfl
@[simp] theorem flip_W (code : Nat) : k.flip.W code = k.W code := rfl
@[simp] theorem flip_A (code : Nat) : k.flip.A code = k.A code := rfl
@[simp] theorem flip_grows : k.flip.grows = k.grows := rfl
@[simp] theorem flip_greatest : k.flip.greatest = k.greatest := rfl
@[simp] theorem flip_width : k.flip.width = k.width := rfl
@[simp] theorem flip_cleared : k.flip.cleared = k.cleared.flip := rfl
@[simp] theorem flip_after (code : Nat) : k.flip.after code = (k.after code).flip := rfl
@[simp] theorem flip_step (code : Nat) : k.flip.step code = (k.step code).flip := by unfold step; by_cases hc : code = k.s.c <;> simp [hc]
@[simp] theorem flip_out (code : Nat) : k.flip.out code = k.out code := rfl
theorem flip_follows (code : Nat) : k.flip.follows code ↔ k.follows code := Iff.rfl
@[simp] theorem flip_codes : k.flip.codes = k.codes := rfl
@[simp] theorem flip_longW (d : Bytes) : k.flip.longW d = k.longW d := rfl
@[simp] theorem flip_find (w : Bytes) : k.flip.find w = k.find w := rfl
@[simp] theorem flip_longF (d : Bytes) : k.flip.longF d = k.longF d := rfl
@[simp] theorem flip_cut (d : Bytes) : k.flip.cut d = k.cut d := rfl
@[simp] theorem flip_full : k.flip.full = k.full := rfl
end
theorem V.flip {k : Kn} (h : k.V) : k.flip.V := ⟨⟨by simp, h.s.lit1, h.s.lit8, h.s.most, h.s.most10⟩, h.len, h.pv, h.base, h.last⟩
theorem flip_flip {k : Kn} (h : k.V) : k.flip.flip = k := by
  have := h.s.ord
  obtain ⟨⟨o, l, m⟩, ps, b, la⟩ := k
  simp only [flip] at *
  have : 1 - (1 - o) = o := by omega
  rw [this]

theorem flip_greedy (k : Kn) (d : Bytes) : greedy k.flip d = greedy k d := by
  revert k d
  apply rest_ind (P := fun k d => greedy k.flip d = greedy k d)
  · intro k; rw [greedy_nil, greedy_nil]
  · intro k d hn ih
    rw [greedy_cons k d hn, greedy_cons k.flip d hn]
    simp only [flip_longF, flip_after, flip_full, flip_cut, flip_cleared, flip_c]
    rw [ih, ih]
    rfl
theorem flip_greedyCodes (k : Kn) (d : Bytes) : greedyCodes k.flip d = greedyCodes k d := by
  unfold greedyCodes; simp [flip_greedy]
theorem flip_lrn (k : Kn) (d : Bytes) : lrn k.flip d = (lrn k d).flip := by
  revert k d
  apply rest_ind (P := fun k d => lrn k.flip d = (lrn k d).flip)
  · intro k; rw [lrn_nil, lrn_nil]
  · intro k d hn ih
    rw [lrn_cons k d hn, lrn_cons k.flip d hn]
    simp only [flip_longF, flip_after, flip_cut]
    rw [ih]
theorem flip_learnK (k : Kn) (d : Bytes) : learnK k.flip d = (learnK k d).flip := by
  unfold learnK; rw [flip_cleared, flip_lrn]; rfl
theorem flip_dat (cs : List Nat) : ∀ (k : Kn), dat k.flip cs = dat k cs := by
  induction cs with
  | nil => intro k; rfl
  | cons code cs ih => intro k; simp only [dat, flip_e, flip_out, flip_step, ih]
theorem flip_okC (cs : List Nat) : ∀ (k : Kn), okC k.flip cs ↔ okC k cs := by
  induction cs with
  | nil => intro k; rfl
  | cons code cs ih => intro k; simp only [okC, flip_e, flip_c, flip_follows, flip_step, ih]
theorem flip_enc_len (cs : List Nat) : ∀ (k : Kn), (enc k.flip cs).length = (enc k cs).length := by
  induction cs with
  | nil => intro k; rfl
  | cons code cs ih => intro k; simp only [enc, List.length_append, bitsO_length, flip_width, flip_step, ih]

/-- the stream in the other order of bits -/
def repack (k : Kn) (s : Bytes) : Bytes := packB (1 - k.s.ord) (enc k.flip (readS k s).codes)

/-- a stream that ends with an end code and has no further bytes, written in the other order, is read as the same codes, has the same length, and is written back -/
theorem repack_ok {k : Kn} (h : k.V) {s : Bytes} (h0 : (readS k s).fin = 0) (hu : usedB s (readS k s) = s.length) :
    readS k.flip (repack k s) = readS k s ∧ (repack k s).length = s.length := by
  obtain ⟨a1, a2, a3, a4, a5, a6⟩ := dec_ok (unpackB k.s.ord s) k 0 0 h h0
  have hr : readS k s = dec k (unpackB k.s.ord s) 0 0 := rfl
  have hl : (enc k.flip (readS k s).codes).length = (readS k s).used := by rw [flip_enc_len, hr]; exact a2.symm
  constructor
  · have h1 : readS k.flip (repack k s) = ⟨(readS k s).codes, 0, (enc k.flip (readS k s).codes).length⟩ := by
      show dec k.flip (unpackB (1 - k.s.ord) (packB (1 - k.s.ord) (enc k.flip (readS k s).codes))) 0 0 = _
      rw [unpackB_packB]
      exact dec_enc _ k.flip _ 0 0 h.flip ((flip_okC _ k).2 a1) (by rw [flip_dat]; simp at a4; rw [hr]; omega) (by rw [hr]; omega)
    rw [h1, hl]
    cases hh : readS k s with
    | mk c f u => rw [hh] at h0; simp at h0; subst h0; rfl
  · unfold repack
    rw [packB_length, hl]
    unfold usedB at hu; rw [h0] at hu; simpa using hu
end Kn
end M
