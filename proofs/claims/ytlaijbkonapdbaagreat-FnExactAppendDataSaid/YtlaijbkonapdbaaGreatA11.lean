/-
  FnExactAppendDataSaid is proved: for every input FnExactAppendData returns true, and each argument reads afterwards as it read before; no conditions. Part 11 of 25.
-/
import Derived.Test.YtlaijbkonapdbaaGreatA02
import Derived.Test.YtlaijbkonapdbaaGreatA10

set_option linter.all false

namespace Go.Proofs.YtlaijbkonapdbaaGreat
open Go.RowKit
attribute [local go_sem] grow_cell grow_frozen conv_one

/-! The tree of words in the heap. -/
def cN (l : List M.Nd) : List Value := l.flatMap fun x => [.int .i64 x.par, .int .i64 x.child, .int .i64 x.next, .int .u8 x.last, .int .u8 x.first, .int .i64 x.code]
theorem cN_len (l : List M.Nd) : (cN l).length = l.length * 6 := flat_len _ 6 (fun _ => rfl) l
theorem cN_append (a b : List M.Nd) : cN (a ++ b) = cN a ++ cN b := by simp [cN]
theorem cN_take (l : List M.Nd) (n : Nat) : (cN l).take (n * 6) = cN (l.take n) := flat_take _ 6 (fun _ => rfl) l n
theorem cN_get (l : List M.Nd) (i : Nat) (x : M.Nd) (h : l[i]? = some x) : (cN l)[i * 6]? = some (.int .i64 x.par) ∧ (cN l)[i * 6 + 1]? = some (.int .i64 x.child) ∧ (cN l)[i * 6 + 2]? = some (.int .i64 x.next) ∧ (cN l)[i * 6 + 3]? = some (.int .u8 x.last) ∧ (cN l)[i * 6 + 4]? = some (.int .u8 x.first) ∧ (cN l)[i * 6 + 5]? = some (.int .i64 x.code) := by
  have key := fun j hj => flat_get (fun x : M.Nd => [Value.int .i64 x.par, .int .i64 x.child, .int .i64 x.next, .int .u8 x.last, .int .u8 x.first, .int .i64 x.code]) 6 (fun _ => rfl) l i j x h hj
  exact ⟨by have := key 0 (by omega); simpa [cN] using this, by have := key 1 (by omega); simpa [cN] using this, by have := key 2 (by omega); simpa [cN] using this, by have := key 3 (by omega); simpa [cN] using this, by have := key 4 (by omega); simpa [cN] using this, by have := key 5 (by omega); simpa [cN] using this⟩

/-- what the tree needs of a Known: nothing of its base and its last code -/
structure TV (k : M.Kn) : Prop where
  s : k.s.Ok
  pv : M.PV k.s.c k.ps
  nx : k.nxt ≤ k.s.l + 1
theorem TV.of {k : M.Kn} (h : k.V) : TV k := ⟨h.s, h.pv, h.nxt_le⟩
def kL (k : M.Kn) : M.WL := M.LL k.s.c k.ps
/-- a world that stays below, and further blocks that stay -/
structure FW where
  w : World
  p : Nat → Option Obj
abbrev FW.of (w : World) : FW := ⟨w, fun _ => none⟩
/-- the further blocks stay, and the tree's own blocks are none of them -/
structure PR (f : FW) (W : World) (g : Nat) (A0 An Ai : Option Addr) : Prop where
  hp : ∀ b o, f.p b = some o → W.heap[b]? = some o
  pg : f.p g = none
  p0 : ∀ x : Addr, A0 = some x → f.p x.block = none
  pn : ∀ x : Addr, An = some x → f.p x.block = none
  pi : ∀ x : Addr, Ai = some x → f.p x.block = none
theorem PR.of {w W : World} {g : Nat} {A0 An Ai : Option Addr} : PR (FW.of w) W g A0 An Ai := ⟨fun _ _ h => (by cases h), rfl, fun _ _ => rfl, fun _ _ => rfl, fun _ _ => rfl⟩
theorem PR.up {f : FW} {W W2 : World} {g : Nat} {A0 An Ai : Option Addr} (h : PR f W g A0 An Ai) (hg : G W W2) : PR f W2 g A0 An Ai :=
  ⟨fun b o hb => (hg.heap (lt_of_block (h.hp b o hb))).trans (h.hp b o hb), h.pg, h.p0, h.pn, h.pi⟩
theorem PR.set {f : FW} {W : World} {g : Nat} {A0 An Ai : Option Addr} (h : PR f W g A0 An Ai) (q o : Nat) (v : Value) (hq : f.p q = none) : PR f (W.setCell ⟨q, o, none⟩ v) g A0 An Ai :=
  ⟨fun b o2 hb => (set_far (fun e => by rw [e, hq] at hb; cases hb) o v).trans (h.hp b o2 hb), h.pg, h.p0, h.pn, h.pi⟩
theorem PR.new {f : FW} {W : World} {g : Nat} {A0 An Ai : Option Addr} (h : PR f W g A0 An Ai) : f.p W.heap.size = none := by
  cases hh : f.p W.heap.size with
  | none => rfl
  | some o => have := lt_of_block (h.hp _ o hh); omega
theorem PR.gr {f : FW} {W W2 : World} {g : Nat} {A0 An Ai : Option Addr} (h : PR f W g A0 An Ai) {r : Option Nat} (hg : W.grownBy W2 r) (hr : ∀ k, r = some k → f.p k = none) : PR f W2 g A0 An Ai :=
  ⟨fun b o hb => (GR.far (show GR W W2 r from hg) (lt_of_block (h.hp b o hb)) (fun e => by rw [hr b e] at hb; cases hb)).trans (h.hp b o hb), h.pg, h.p0, h.pn, h.pi⟩
/-- the tree's variable: its setting, pairs, base and last code, nodes, and the nodes of the pairs -/
structure TG (w : FW) (W : World) (g : Nat) (s : M.St) (ps : List (Nat × Nat)) (base : Nat) (last : Int) (N : List M.Nd) (I : List Nat) (A0 : Option Addr) (c0 : Nat) (An : Option Addr) (cn : Nat) (Ai : Option Addr) (ci : Nat) : Prop where
  row : W.heap[g]? = some (.cells #[.int .i64 s.ord, .int .i64 s.lit, .int .i64 s.most, .slice A0 ps.length c0, .int .i64 base, .int .i64 last, .slice An N.length cn, .slice Ai I.length ci] 106 (0, 0))
  op : W.ownsRow (g + 1) 98 2 (.slice A0 ps.length c0) ps.length (cP ps)
  on : W.ownsRow (g + 1) 124 6 (.slice An N.length cn) N.length (cN N)
  oi : W.ownsRow (g + 1) 3 1 (.slice Ai I.length ci) I.length (cI I)
  d1 : ∀ x : Addr, A0 = some x → (∀ y : Addr, An = some y → y.block ≠ x.block) ∧ (∀ y : Addr, Ai = some y → y.block ≠ x.block)
  d2 : ∀ x : Addr, An = some x → ∀ y : Addr, Ai = some y → y.block ≠ x.block
  gb : w.w.heap.size ≤ g
  fr : G w.w W
  pr : PR w W g A0 An Ai
abbrev TB (w : FW) (W : World) (g : Nat) (k : M.Kn) (A0 : Option Addr) (c0 : Nat) (An : Option Addr) (cn : Nat) (Ai : Option Addr) (ci : Nat) : Prop := TG w W g k.s k.ps k.base k.last (M.nodesOf (kL k)) (M.idxs k.s.c k.ps) A0 c0 An cn Ai ci

theorem ob_slice {A : Option Addr} {n c : Nat} {x : Nat} : (Value.slice A n c).ownBlock = some x ↔ ∃ a, A = some a ∧ a.block = x := by
  cases A with
  | none => simp [Value.ownBlock]
  | some a => simp [Value.ownBlock]
theorem ob_ne {A B : Option Addr} {n c m d : Nat} (h : ∀ x : Addr, A = some x → ∀ y : Addr, B = some y → y.block ≠ x.block) : (Value.slice A n c).ownBlock = none ∨ (Value.slice A n c).ownBlock ≠ (Value.slice B m d).ownBlock := by
  cases A with
  | none => exact Or.inl rfl
  | some a =>
    refine Or.inr fun e => ?_
    have := (ob_slice (A := B) (n := m) (c := d) (x := a.block)).1 (e.symm.trans rfl)
    obtain ⟨b, hb, e2⟩ := this
    exact h a rfl b hb e2

section
variable {w : FW} {W W2 : World} {g : Nat} {s : M.St} {ps : List (Nat × Nat)} {base : Nat} {last : Int} {N : List M.Nd} {I : List Nat} {A0 An Ai : Option Addr} {c0 cn ci : Nat}
theorem TG.lt (h : TG w W g s ps base last N I A0 c0 An cn Ai ci) : g < W.heap.size := lt_of_block h.row
theorem TG.up (h : TG w W g s ps base last N I A0 c0 An cn Ai ci) (hg : G W W2) : TG w W2 g s ps base last N I A0 c0 An cn Ai ci :=
  ⟨(hg.heap h.lt).trans h.row, own_g h.op hg, own_g h.on hg, own_g h.oi hg, h.d1, h.d2, h.gb, h.fr.trans hg, h.pr.up hg⟩
theorem TG.cells (h : TG w W g s ps base last N I A0 c0 An cn Ai ci) : W.cell? ⟨g, 0, none⟩ = some (.int .i64 s.ord) ∧ W.cell? ⟨g, 1, none⟩ = some (.int .i64 s.lit) ∧ W.cell? ⟨g, 2, none⟩ = some (.int .i64 s.most) ∧ W.cell? ⟨g, 3, none⟩ = some (.slice A0 ps.length c0) ∧ W.cell? ⟨g, 4, none⟩ = some (.int .i64 base) ∧ W.cell? ⟨g, 5, none⟩ = some (.int .i64 last) ∧ W.cell? ⟨g, 6, none⟩ = some (.slice An N.length cn) ∧ W.cell? ⟨g, 7, none⟩ = some (.slice Ai I.length ci) :=
  ⟨by rw [cell_of_row W g 0 _ _ _ h.row]; rfl, by rw [cell_of_row W g 1 _ _ _ h.row]; rfl, by rw [cell_of_row W g 2 _ _ _ h.row]; rfl, by rw [cell_of_row W g 3 _ _ _ h.row]; rfl, by rw [cell_of_row W g 4 _ _ _ h.row]; rfl, by rw [cell_of_row W g 5 _ _ _ h.row]; rfl, by rw [cell_of_row W g 6 _ _ _ h.row]; rfl, by rw [cell_of_row W g 7 _ _ _ h.row]; rfl⟩
theorem TG.fz (h : TG w W g s ps base last N I A0 c0 An cn Ai ci) (o : Nat) : W.frozen? ⟨g, o, none⟩ = false := frozen_of_row W g o _ _ h.row
theorem own_above {W : World} {g : Nat} {e : TypeId} {size n m c : Nat} {A : Option Addr} {xs : List Value} (h : W.ownsRow (g + 1) e size (.slice A m c) n xs) : (Value.slice A m c).ownBlock ≠ some g := fun e => by have := own_base h e; omega
/-- one of the variable's own words is written: the last code -/
theorem TG.setLast (h : TG w W g s ps base last N I A0 c0 An cn Ai ci) (l : Int) : TG w (W.setCell ⟨g, 5, none⟩ (.int .i64 l)) g s ps base l N I A0 c0 An cn Ai ci :=
  ⟨by rw [heap_setCell_same W g 5 _ _ _ h.row]; rfl, ownsRow_setCell_other h.op (own_above h.op) _, ownsRow_setCell_other h.on (own_above h.on) _, ownsRow_setCell_other h.oi (own_above h.oi) _, h.d1, h.d2, h.gb, G.setCell h.fr h.gb _, h.pr.set g _ _ h.pr.pg⟩
theorem far_row (h : TG w W g s ps base last N I A0 c0 An cn Ai ci) {r : Option Nat} (hgr : W.grownBy W2 r) (hr : r ≠ some g) : W2.heap[g]? = some (.cells #[.int .i64 s.ord, .int .i64 s.lit, .int .i64 s.most, .slice A0 ps.length c0, .int .i64 base, .int .i64 last, .slice An N.length cn, .slice Ai I.length ci] 106 (0, 0)) :=
  (GR.far (show GR W W2 r from hgr) h.lt hr).trans h.row
/-- a node is appended -/
theorem TG.app6 (h : TG w W g s ps base last N I A0 c0 An cn Ai ci) {x : M.Nd} {B : Option Addr} {cb : Nat} (hgr : W.grownBy W2 (Value.slice An N.length cn).ownBlock)
    (ho : W2.ownsRow (g + 1) 124 6 (.slice B (N.length + 1) cb) (N.length + 1) (cN N ++ cN [x])) (hat : (Value.slice B (N.length + 1) cb).ownBlock = (Value.slice An N.length cn).ownBlock ∨ (Value.slice B (N.length + 1) cb).ownBlock = some W.heap.size) :
    TG w (W2.setCell ⟨g, 6, none⟩ (.slice B (N.length + 1) cb)) g s ps base last (N ++ [x]) I A0 c0 B cb Ai ci := by
  have hB : ∀ y : Addr, B = some y → (∃ a, An = some a ∧ a.block = y.block) ∨ y.block = W.heap.size := by
    intro y hy
    rcases hat with e | e
    · exact Or.inl (ob_slice.1 (e.symm.trans (by rw [hy]; rfl)))
    · exact Or.inr (by rw [hy] at e; simpa [Value.ownBlock] using e)
  have lt0 : ∀ x : Addr, A0 = some x → x.block < W.heap.size := fun x hx => own_lt h.op (ob_slice.2 ⟨x, hx, rfl⟩)
  have lti : ∀ x : Addr, Ai = some x → x.block < W.heap.size := fun x hx => own_lt h.oi (ob_slice.2 ⟨x, hx, rfl⟩)
  refine ⟨?_, ownsRow_setCell_other (own_gr h.op hgr (ob_ne fun x hx y hy => (h.d1 x hx).1 y hy)) (own_above h.op) _, ?_, ownsRow_setCell_other (own_gr h.oi hgr (ob_ne fun x hx y hy e => h.d2 y hy x hx e.symm)) (own_above h.oi) _, ?_, ?_, h.gb, ?_, (fun q : PR w W2 g A0 B Ai => q.set g _ _ h.pr.pg) ((fun q : PR w W2 g A0 An Ai => ⟨q.hp, q.pg, q.p0, (fun y hy => by rcases hB y hy with ⟨a, ha, e⟩ | e; exact e ▸ h.pr.pn a ha; exact e ▸ h.pr.new), q.pi⟩) (h.pr.gr hgr (fun k hk => by obtain ⟨a, ha, e⟩ := ob_slice.1 hk; exact e ▸ h.pr.pn a ha)))⟩
  · rw [heap_setCell_same W2 g 6 _ _ _ (far_row h hgr (own_above h.on))]
    rw [List.length_append]; rfl
  · rw [cN_append, List.length_append]; exact ownsRow_setCell_other ho (own_above ho) _
  · intro x hx
    refine ⟨fun y hy e => ?_, (h.d1 x hx).2⟩
    rcases hB y hy with ⟨a, ha, e2⟩ | e2
    · exact (h.d1 x hx).1 a ha (e2.trans e)
    · have := lt0 x hx; omega
  · intro x hx y hy e
    rcases hB x hx with ⟨a, ha, e2⟩ | e2
    · exact h.d2 a ha y hy (e.trans e2.symm)
    · have := lti y hy; omega
  · exact G.setCell (h.fr.grown hgr (fun b hb => by have := own_base h.on hb; have := h.gb; omega)) h.gb _
/-- a pair's node is appended -/
theorem TG.app7 (h : TG w W g s ps base last N I A0 c0 An cn Ai ci) {x : Nat} {B : Option Addr} {cb : Nat} (hgr : W.grownBy W2 (Value.slice Ai I.length ci).ownBlock)
    (ho : W2.ownsRow (g + 1) 3 1 (.slice B (I.length + 1) cb) (I.length + 1) (cI I ++ [.int .i64 x])) (hat : (Value.slice B (I.length + 1) cb).ownBlock = (Value.slice Ai I.length ci).ownBlock ∨ (Value.slice B (I.length + 1) cb).ownBlock = some W.heap.size) :
    TG w (W2.setCell ⟨g, 7, none⟩ (.slice B (I.length + 1) cb)) g s ps base last N (I ++ [x]) A0 c0 An cn B cb := by
  have hB : ∀ y : Addr, B = some y → (∃ a, Ai = some a ∧ a.block = y.block) ∨ y.block = W.heap.size := by
    intro y hy
    rcases hat with e | e
    · exact Or.inl (ob_slice.1 (e.symm.trans (by rw [hy]; rfl)))
    · exact Or.inr (by rw [hy] at e; simpa [Value.ownBlock] using e)
  have lt0 : ∀ x : Addr, A0 = some x → x.block < W.heap.size := fun x hx => own_lt h.op (ob_slice.2 ⟨x, hx, rfl⟩)
  have ltn : ∀ x : Addr, An = some x → x.block < W.heap.size := fun x hx => own_lt h.on (ob_slice.2 ⟨x, hx, rfl⟩)
  refine ⟨?_, ownsRow_setCell_other (own_gr h.op hgr (ob_ne fun x hx y hy => (h.d1 x hx).2 y hy)) (own_above h.op) _, ownsRow_setCell_other (own_gr h.on hgr (ob_ne fun x hx y hy => h.d2 x hx y hy)) (own_above h.on) _, ?_, ?_, ?_, h.gb, ?_, (fun q : PR w W2 g A0 An B => q.set g _ _ h.pr.pg) ((fun q : PR w W2 g A0 An Ai => ⟨q.hp, q.pg, q.p0, q.pn, (fun y hy => by rcases hB y hy with ⟨a, ha, e⟩ | e; exact e ▸ h.pr.pi a ha; exact e ▸ h.pr.new)⟩) (h.pr.gr hgr (fun k hk => by obtain ⟨a, ha, e⟩ := ob_slice.1 hk; exact e ▸ h.pr.pi a ha)))⟩
  · rw [heap_setCell_same W2 g 7 _ _ _ (far_row h hgr (own_above h.oi))]
    rw [List.length_append]; rfl
  · rw [cI_snoc, List.length_append]; exact ownsRow_setCell_other ho (own_above ho) _
  · intro x hx
    refine ⟨(h.d1 x hx).1, fun y hy e => ?_⟩
    rcases hB y hy with ⟨a, ha, e2⟩ | e2
    · exact (h.d1 x hx).2 a ha (e2.trans e)
    · have := lt0 x hx; omega
  · intro x hx y hy e
    rcases hB y hy with ⟨a, ha, e2⟩ | e2
    · exact h.d2 x hx a ha (e2.trans e)
    · have := ltn x hx; omega
  · exact G.setCell (h.fr.grown hgr (fun b hb => by have := own_base h.oi hb; have := h.gb; omega)) h.gb _
/-- a pair is appended -/
theorem TG.app3 (h : TG w W g s ps base last N I A0 c0 An cn Ai ci) {p : Nat × Nat} {B : Option Addr} {cb : Nat} (hgr : W.grownBy W2 (Value.slice A0 ps.length c0).ownBlock)
    (ho : W2.ownsRow (g + 1) 98 2 (.slice B (ps.length + 1) cb) (ps.length + 1) (cP ps ++ cP [p])) (hat : (Value.slice B (ps.length + 1) cb).ownBlock = (Value.slice A0 ps.length c0).ownBlock ∨ (Value.slice B (ps.length + 1) cb).ownBlock = some W.heap.size) :
    TG w (W2.setCell ⟨g, 3, none⟩ (.slice B (ps.length + 1) cb)) g s (ps ++ [p]) base last N I B cb An cn Ai ci := by
  have hB : ∀ y : Addr, B = some y → (∃ a, A0 = some a ∧ a.block = y.block) ∨ y.block = W.heap.size := by
    intro y hy
    rcases hat with e | e
    · exact Or.inl (ob_slice.1 (e.symm.trans (by rw [hy]; rfl)))
    · exact Or.inr (by rw [hy] at e; simpa [Value.ownBlock] using e)
  have lti : ∀ x : Addr, Ai = some x → x.block < W.heap.size := fun x hx => own_lt h.oi (ob_slice.2 ⟨x, hx, rfl⟩)
  have ltn : ∀ x : Addr, An = some x → x.block < W.heap.size := fun x hx => own_lt h.on (ob_slice.2 ⟨x, hx, rfl⟩)
  refine ⟨?_, ?_, ownsRow_setCell_other (own_gr h.on hgr (ob_ne fun x hx y hy e => (h.d1 y hy).1 x hx e.symm)) (own_above h.on) _, ownsRow_setCell_other (own_gr h.oi hgr (ob_ne fun x hx y hy e => (h.d1 y hy).2 x hx e.symm)) (own_above h.oi) _, ?_, h.d2, h.gb, ?_, (fun q : PR w W2 g B An Ai => q.set g _ _ h.pr.pg) ((fun q : PR w W2 g A0 An Ai => ⟨q.hp, q.pg, (fun y hy => by rcases hB y hy with ⟨a, ha, e⟩ | e; exact e ▸ h.pr.p0 a ha; exact e ▸ h.pr.new), q.pn, q.pi⟩) (h.pr.gr hgr (fun k hk => by obtain ⟨a, ha, e⟩ := ob_slice.1 hk; exact e ▸ h.pr.p0 a ha)))⟩
  · rw [heap_setCell_same W2 g 3 _ _ _ (far_row h hgr (own_above h.op))]
    rw [List.length_append]; rfl
  · rw [cP_append, List.length_append]; exact ownsRow_setCell_other ho (own_above ho) _
  · intro x hx
    rcases hB x hx with ⟨a, ha, e2⟩ | e2
    · exact ⟨fun y hy e => (h.d1 a ha).1 y hy (e.trans e2.symm), fun y hy e => (h.d1 a ha).2 y hy (e.trans e2.symm)⟩
    · exact ⟨fun y hy e => by have := ltn y hy; omega, fun y hy e => by have := lti y hy; omega⟩
  · exact G.setCell (h.fr.grown hgr (fun b hb => by have := own_base h.op hb; have := h.gb; omega)) h.gb _
end

section
variable (k : M.Kn) (hk : TV k) (w : FW) (W : World) (g : Nat) (A0 : Option Addr) (c0 : Nat) (An : Option Addr) (cn : Nat) (Ai : Option Addr) (ci : Nat) (hT : TB w W g k A0 c0 An cn Ai ci)
include hk hT
theorem kL_len : k.s.c ≤ (kL k).length ∧ (kL k).length ≤ 2048 := by
  have H := M.LL_ok k.s.c k.ps hk.pv hk.s.c256
  refine ⟨H.clen, ?_⟩
  have h1 : ∀ (ws : List M.Bytes) n, (M.LN k.s.c ws n).length ≤ k.s.c + n := by
    intro ws n
    induction n with
    | zero => simp [M.LN, M.lits]
    | succ n ih =>
      rw [M.LN]; unfold M.addL; split
      · omega
      · simp; omega
  have h2 := h1 (M.words k.s.c k.ps) k.ps.length
  have h3 := hk.nx
  have h4 := hk.s.l1024
  have h5 := hk.s.c256
  unfold kL M.LL
  unfold M.Kn.nxt at h3
  omega
set_option maxHeartbeats 1000000 in
theorem v_nodeOf (code : Nat) (hc : M.has k.s.c k.ps.length code) : Calls Tryz.prog 101 #[.pointer (some ⟨g, 0, none⟩), .int .i64 code] W fun e w' => e = .returned (.int .i64 (M.nodeI k.s.c k.ps code)) ∧ G W w' := by
  have hs := hk.s
  have hc256 := hs.c256
  have hn := hk.nx
  have hl := hs.l1024
  have he : k.s.e = k.s.c + 1 := M.St.e_eq _
  have hlt := hT.lt
  obtain ⟨q0, q1, q2, q3, q4, q5, q6, q7⟩ := hT.cells
  rw [M.nodesOf_length] at q6
  rw [M.idxs_length] at q7
  have hps : k.ps.length ≤ 1024 := by unfold M.Kn.nxt at hn; omega
  have hn2 : M.nodeI k.s.c k.ps code = if code < k.s.c then code else (M.idxs k.s.c k.ps).getD (code - (k.s.c + 2)) 0 := rfl
  by_cases h1 : code < k.s.c
  · rw [if_pos h1] at hn2
    have HN := Lib.hid hn2
    have hle : ¬ ((k.s.e : Int) < code) := by omega
    have he1 : k.s.e ≤ 257 := by omega
    have HE := Lib.hid he
    clear hn2 he
    go_enter Tryz.func101, Tryz.ntmps101
    go_wp2_with (first | (go_at_call 78; refine (v_EndCode k.s hs _).mono ?_; rintro e w' ⟨rfl, h1⟩; obtain ⟨hch1, hfh1⟩ := gcell h1; try (have hzh1 : w.heap.size < w'.heap.size := by have := h1.size; (try simp at this); omega); try (have hyh1 : w.heap.size + 1 < w'.heap.size := by have := h1.size; (try simp at this); omega)) | fail)
    go_ret
    exact ⟨ret_int (by rw [HN.out]), (by repeat' (first | (with_reducible exact G.refl _) | (with_reducible assumption) | (with_reducible refine G.alloc ?_ _) | (with_reducible refine G.drew ?_) | (with_reducible refine G.drewN ?_ _) | (refine G.setCell ?_ (by first | (simp <;> done) | (simp <;> omega)) _) | (with_reducible refine G.trans ?_ (by with_reducible assumption))))⟩
  · rw [if_neg h1] at hn2
    obtain ⟨j, hj⟩ : ∃ j, code = k.s.e + 1 + j := ⟨code - (k.s.e + 1), by unfold M.has at hc; omega⟩
    have hjl : j < k.ps.length := by unfold M.has at hc; omega
    have hn3 : (M.idxs k.s.c k.ps)[j]? = some (M.nodeI k.s.c k.ps code) := by
      rw [hn2, show code - (k.s.c + 2) = j by omega, List.getD_eq_getElem?_getD]
      have : j < (M.idxs k.s.c k.ps).length := by simp; exact hjl
      rw [List.getElem?_eq_getElem this]; rfl
    obtain ⟨gi, rfl, hgi, hcell⟩ := (Rds.own hT.oi).at_ (by rw [M.idxs_length]; omega)
    have hcv := hcell j _ (cI_get _ j _ hn3)
    have he1 : k.s.e ≤ 257 := by omega
    have hlt2 : ((k.s.e : Int) < (code : Int)) := by omega
    have hx : (code : Int) - k.s.e - 1 = j := by omega
    have hcl : code ≤ 2000 := by omega
    generalize M.nodeI k.s.c k.ps code = v at *
    have HE := Lib.hid he
    have HJ := Lib.hid hj
    have HC := Lib.hid hcell
    clear hn2 he hj hcell hn3 h1
    go_enter Tryz.func101, Tryz.ntmps101
    go_wp2_with (first | (go_at_call 78; refine (v_EndCode k.s hs _).mono ?_; rintro e w' ⟨rfl, h1⟩; obtain ⟨hch1, hfh1⟩ := gcell h1; try (have hzh1 : w.heap.size < w'.heap.size := by have := h1.size; (try simp at this); omega); try (have hyh1 : w.heap.size + 1 < w'.heap.size := by have := h1.size; (try simp at this); omega)) | fail)
    go_ret
    exact ⟨rfl, (by repeat' (first | (with_reducible exact G.refl _) | (with_reducible assumption) | (with_reducible refine G.alloc ?_ _) | (with_reducible refine G.drew ?_) | (with_reducible refine G.drewN ?_ _) | (refine G.setCell ?_ (by first | (simp <;> done) | (simp <;> omega)) _) | (with_reducible refine G.trans ?_ (by with_reducible assumption))))⟩

set_option maxHeartbeats 1000000 in
theorem v_child (p : Nat) (hp : p < (kL k).length) (b : UInt8) : Calls Tryz.prog 102 #[.pointer (some ⟨g, 0, none⟩), .int .i64 p, .int .u8 b.toNat] W fun e w' => (∃ r : Int, e = .returned (.int .i64 r) ∧ ((r = -1 ∧ ¬ M.inL (kL k) (((kL k)[p]).1 ++ [b])) ∨ ∃ q : Nat, r = q ∧ ∃ h : q < (kL k).length, ((kL k)[q]).1 = ((kL k)[p]).1 ++ [b])) ∧ G W w' := by
  have H : M.LOk k.s.c k.ps k.ps.length (kL k) := M.LL_ok k.s.c k.ps hk.pv hk.s.c256
  have hlen := (kL_len k hk w W g A0 c0 An cn Ai ci hT).2
  have hlt := hT.lt
  obtain ⟨q0, q1, q2, q3, q4, q5, q6, q7⟩ := hT.cells
  rw [M.nodesOf_length] at q6
  rw [M.idxs_length] at q7
  obtain ⟨gn, rfl, hgn, hcell⟩ := (Rds.own hT.on).at_ (by rw [M.nodesOf_length]; omega)
  have hc0 := hcell _ _ (cN_get _ p _ (M.nodesOf_get (kL k) p hp)).2.1
  have HC := Lib.hid hcell
  have hbl := b.toNat_lt
  have hch : (M.nd (kL k) p).child = M.lc (kL k) p (kL k).length := rfl
  have HH := Lib.hid H
  obtain ⟨r0, hr0⟩ : ∃ r0, M.lc (kL k) p (kL k).length = r0 := ⟨_, rfl⟩
  rw [hch, hr0] at hc0
  have hge := M.lc_ge (kL k) p (kL k).length
  have hl2 := M.lc_lt (kL k) p (kL k).length
  rw [hr0] at hge hl2
  have HR := Lib.hid hr0
  clear hcell hch H hr0
  go_enter Tryz.func102, Tryz.ntmps102
  go_wp2
  go_loopw [7] (fun x wr => ∃ (m : Nat) (r : Int), x = .int .i64 r ∧ m ≤ (kL k).length ∧ Hid (M.lc (kL k) p m = r) ∧ -1 ≤ r ∧ r < (kL k).length ∧ Hid (∀ j (hj : j < (kL k).length), m ≤ j → ((kL k)[j]).1 ≠ ((kL k)[p]).1 ++ [b]) ∧ G W wr) (fun x _ => ((intOf x) + 1).toNat)
  case atStart => exact ⟨(kL k).length, r0, rfl, Nat.le_refl _, HR.out, hge, hl2, (fun j hj h => absurd hj (by omega)), (by repeat' (first | (with_reducible exact G.refl _) | (with_reducible assumption) | (with_reducible refine G.alloc ?_ _) | (with_reducible refine G.drew ?_) | (with_reducible refine G.drewN ?_ _) | (refine G.setCell ?_ (by first | (simp <;> done) | (simp <;> omega)) _) | (with_reducible refine G.trans ?_ (by with_reducible assumption))))⟩
  case round =>
    obtain ⟨m, r, rfl, hm, HLC, hr1, hr2, HNO, hG⟩ := hrel
    have hgW := hG.size
    obtain ⟨hcW, hfW⟩ := gcell hG
    rcases (show r = -1 ∨ 0 ≤ r by omega) with rfl | hr0
    · go_wp2
      go_ret
      refine ⟨⟨-1, rfl, Or.inl ⟨rfl, ?_⟩⟩, (by repeat' (first | (with_reducible exact G.refl _) | (with_reducible assumption) | (with_reducible refine G.alloc ?_ _) | (with_reducible refine G.drew ?_) | (with_reducible refine G.drewN ?_ _) | (refine G.setCell ?_ (by first | (simp <;> done) | (simp <;> omega)) _) | (with_reducible refine G.trans ?_ (by with_reducible assumption))))⟩
      exact HH.out.chain_none hp HNO.out (by rw [HLC.out]; omega)
    · obtain ⟨q, rfl⟩ : ∃ q : Nat, r = q := ⟨r.toNat, by omega⟩
      have hq : q < (kL k).length := by omega
      obtain ⟨d0, d1, d2, d3, d4, d5⟩ := cN_get _ q _ (M.nodesOf_get (kL k) q hq)
      have e2 := HC.out _ _ d2
      have e3 := HC.out _ _ d3
      have hlast : (M.nd (kL k) q).last < 256 := by simp only [M.nd]; exact UInt8.toNat_lt _
      by_cases hb : (M.nd (kL k) q).last = b.toNat
      · have HF : Hid (((kL k)[q]).1 = ((kL k)[p]).1 ++ [b]) := by
          have := HH.out.chain_found hp hm (b := b) (by rw [HLC.out]; omega) (by rw [HLC.out]; simpa using hb)
          obtain ⟨h, he⟩ := this
          rw [HLC.out] at h
          show _ = _
          have e : (M.lc (kL k) p m).toNat = q := by rw [HLC.out]; simp
          simp only [e] at he
          exact he
        rw [hb] at e3
        clear d0 d1 d2 d3 d4 d5 hb hlast e2
        go_wp2
        go_ret
        exact ⟨⟨_, rfl, Or.inr ⟨q, rfl, hq, HF.out⟩⟩, (by repeat' (first | (with_reducible exact G.refl _) | (with_reducible assumption) | (with_reducible refine G.alloc ?_ _) | (with_reducible refine G.drew ?_) | (with_reducible refine G.drewN ?_ _) | (refine G.setCell ?_ (by first | (simp <;> done) | (simp <;> omega)) _) | (with_reducible refine G.trans ?_ (by with_reducible assumption))))⟩
      · have hst := HH.out.chain_step hp hm HNO.out (by rw [HLC.out]; omega) (by rw [HLC.out]; simpa using hb)
        rw [HLC.out] at hst
        simp only [Int.toNat_natCast] at hst
        obtain ⟨s1, s2, s3⟩ := hst
        rw [s1] at e2
        have hg1 := M.lc_ge (kL k) p q
        have hg2 := M.lc_lt (kL k) p q
        obtain ⟨r1, hr1⟩ : ∃ r1, M.lc (kL k) p q = r1 := ⟨_, rfl⟩
        rw [hr1] at e2 hg1 hg2
        have HR1 := Lib.hid hr1
        have HS3 := Lib.hid s3
        have hbne : (((M.nd (kL k) q).last : Int) != (b.toNat : Int)) = true := by simp; omega
        generalize (M.nd (kL k) q).last = lst at *
        clear d0 d1 d2 d3 d4 d5 s1 s3 hr1 hb
        go_wp2
        go_roundw
        case rel => exact ⟨q, r1, rfl, by omega, HR1.out, by omega, by omega, HS3.out, (by repeat' (first | (with_reducible exact G.refl _) | (with_reducible assumption) | (with_reducible refine G.alloc ?_ _) | (with_reducible refine G.drew ?_) | (with_reducible refine G.drewN ?_ _) | (refine G.setCell ?_ (by first | (simp <;> done) | (simp <;> omega)) _) | (with_reducible refine G.trans ?_ (by with_reducible assumption))))⟩
        case measure => simp [intOf]; omega
end
end Go.Proofs.YtlaijbkonapdbaaGreat

namespace Go.Proofs.YtlaijbkonapdbaaGreat
open Go.RowKit
attribute [local go_sem] grow_cell grow_frozen conv_one

theorem node_info : (Tryz.prog.info? 124).map (fun i => (i.zero, i.size, i.bytes)) = some (some (.agg #[.int .i64 0, .int .i64 0, .int .i64 0, .int .u8 0, .int .u8 0, .int .i64 0]), 6, 40) := by kernel_rfl
theorem cf_nextWord : ∀ args w, (callFunc 100 args).run Tryz.prog w = .ok (.enter 100 args) w := by intro args w; go_simp
section
variable (k : M.Kn) (hk : TV k) (A : Option Addr) (c : Nat) (w : World)
include hk
theorem v_nextWord2 : Calls Tryz.prog 100 #[knV k A c] w fun e w' => e = .returned (.int .i64 k.nxt) ∧ G w w' := by
  have hs := hk.s
  have hc := hs.c256
  have hl := hs.l1024
  have hn := hk.nx
  have hx2 : k.s.c + 2 + k.ps.length ≤ 1024 := by unfold M.Kn.nxt at hn; omega
  have HX : Hid ((k.nxt : Int) = k.s.c + 2 + k.ps.length) := by unfold Hid M.Kn.nxt; omega
  have HE := Lib.hid (M.St.e_eq k.s)
  have he : k.s.e ≤ 2000 := by have := HE.out; omega
  clear hn
  go_enter Tryz.func100, Tryz.ntmps100
  go_wp2
  go_region_held3 (fun w' => w'.cell? ⟨w.heap.size, 0, none⟩ = some (.int .i64 k.s.ord) ∧ w'.cell? ⟨w.heap.size, 1, none⟩ = some (.int .i64 k.s.lit) ∧ w'.cell? ⟨w.heap.size, 2, none⟩ = some (.int .i64 k.s.most) ∧ w'.cell? ⟨w.heap.size, 3, none⟩ = some (.slice A k.ps.length c) ∧ w'.cell? ⟨w.heap.size, 4, none⟩ = some (.int .i64 k.base) ∧ w'.cell? ⟨w.heap.size, 5, none⟩ = some (.int .i64 k.last)) (go_keep) ((go_at_call 78; refine (v_EndCode k.s hs _).mono ?_; rintro e w' ⟨rfl, h1⟩; obtain ⟨hch1, hfh1⟩ := gcell h1; try (have hzh1 : w.heap.size < w'.heap.size := by have := h1.size; (try simp at this); omega); try (have hyh1 : w.heap.size + 1 < w'.heap.size := by have := h1.size; (try simp at this); omega)))
  go_wp2
  go_ret
  exact ⟨ret_int (by have := HX.out; have := HE.out; go_unwrap; omega), (by repeat' (first | (with_reducible exact G.refl _) | (with_reducible assumption) | (with_reducible refine G.alloc ?_ _) | (with_reducible refine G.drew ?_) | (with_reducible refine G.drewN ?_ _) | (refine G.setCell ?_ (by first | (simp <;> done) | (simp <;> omega)) _) | (with_reducible refine G.trans ?_ (by with_reducible assumption))))⟩
end
/-- one pair laid in a new row is a source -/
theorem src_pr (W : World) (g : Nat) (p : Nat × Nat) (h : W.heap[g]? = some (.cells #[.int .i64 p.1, .int .i64 p.2] 98 (0, 0))) :
    Src Tryz.prog 2 38 (.slice (some ⟨g, 0, none⟩) 1 1) 1 (cP [p]) W := by
  refine Src.ofRds Tryz.underlying38 ⟨rfl, fun _ => ⟨g, rfl, lt_of_block h, ?_⟩⟩ (cP_one _)
  intro j u hu
  have e : cP [p] = [.int .i64 p.1, .int .i64 p.2] := rfl
  rw [e] at hu
  rw [cell_of_row W g j _ _ _ h]
  simpa using hu
/-- the pair's list with one more -/
def addP (k : M.Kn) (p : Nat × Nat) : M.Kn := { k with ps := k.ps ++ [p] }
theorem TG.farc {w : FW} {W W2 : World} {g : Nat} {s : M.St} {ps : List (Nat × Nat)} {base : Nat} {last : Int} {N : List M.Nd} {I : List Nat} {A0 An Ai : Option Addr} {c0 cn ci : Nat} (h : TG w W g s ps base last N I A0 c0 An cn Ai ci) {r : Option Nat} (hgr : W.grownBy W2 r) (hr : r ≠ some g) :
    g < W2.heap.size ∧ (∀ o, W2.frozen? ⟨g, o, none⟩ = false) ∧ W2.cell? ⟨g, 0, none⟩ = some (.int .i64 s.ord) ∧ W2.cell? ⟨g, 1, none⟩ = some (.int .i64 s.lit) ∧ W2.cell? ⟨g, 2, none⟩ = some (.int .i64 s.most) ∧ W2.cell? ⟨g, 3, none⟩ = some (.slice A0 ps.length c0) ∧ W2.cell? ⟨g, 4, none⟩ = some (.int .i64 base) ∧ W2.cell? ⟨g, 5, none⟩ = some (.int .i64 last) ∧ W2.cell? ⟨g, 6, none⟩ = some (.slice An N.length cn) ∧ W2.cell? ⟨g, 7, none⟩ = some (.slice Ai I.length ci) := by
  have hrow := far_row h hgr hr
  exact ⟨lt_of_block hrow, fun o => frozen_of_row W2 g o _ _ hrow, by rw [cell_of_row W2 g 0 _ _ _ hrow]; rfl, by rw [cell_of_row W2 g 1 _ _ _ hrow]; rfl, by rw [cell_of_row W2 g 2 _ _ _ hrow]; rfl, by rw [cell_of_row W2 g 3 _ _ _ hrow]; rfl, by rw [cell_of_row W2 g 4 _ _ _ hrow]; rfl, by rw [cell_of_row W2 g 5 _ _ _ hrow]; rfl, by rw [cell_of_row W2 g 6 _ _ _ hrow]; rfl, by rw [cell_of_row W2 g 7 _ _ _ hrow]; rfl⟩
section
variable (k : M.Kn) (hk : TV k) (w : FW) (W : World) (g : Nat) (A0 : Option Addr) (c0 : Nat) (An : Option Addr) (cn : Nat) (Ai : Option Addr) (ci : Nat) (hT : TB w W g k A0 c0 An cn Ai ci)
include hk hT
theorem v_child_yes (p : Nat) (hp : p < (kL k).length) (b : UInt8) (bn : Nat) (hb : bn = b.toNat) (q : Nat) (hq : q < (kL k).length) (he : ((kL k)[q]).1 = ((kL k)[p]).1 ++ [b]) : Calls Tryz.prog 102 #[.pointer (some ⟨g, 0, none⟩), .int .i64 p, .int .u8 bn] W fun e w' => e = .returned (.int .i64 q) ∧ G W w' := by
  subst hb
  refine (v_child k hk w W g A0 c0 An cn Ai ci hT p hp b).mono ?_
  rintro e w' ⟨⟨r, rfl, hr⟩, h2⟩
  have H : M.LOk k.s.c k.ps k.ps.length (kL k) := M.LL_ok k.s.c k.ps hk.pv hk.s.c256
  rcases hr with ⟨_, h⟩ | ⟨q', rfl, hq', he'⟩
  · exact absurd ⟨q, hq, he⟩ h
  · rw [H.dist q' q hq' hq (he'.trans he.symm)]; exact ⟨rfl, h2⟩
theorem v_child_no (p : Nat) (hp : p < (kL k).length) (b : UInt8) (bn : Nat) (hb : bn = b.toNat) (he : ¬ M.inL (kL k) (((kL k)[p]).1 ++ [b])) : Calls Tryz.prog 102 #[.pointer (some ⟨g, 0, none⟩), .int .i64 p, .int .u8 bn] W fun e w' => e = .returned (.int .i64 (-1)) ∧ G W w' := by
  subst hb
  refine (v_child k hk w W g A0 c0 An cn Ai ci hT p hp b).mono ?_
  rintro e w' ⟨⟨r, rfl, hr⟩, h2⟩
  rcases hr with ⟨rfl, _⟩ | ⟨q', rfl, hq', he'⟩
  · exact ⟨rfl, h2⟩
  · exact absurd ⟨q', hq', he'⟩ he
set_option maxRecDepth 8000 in
set_option maxHeartbeats 4000000 in
theorem v_learn_yes (pre byt : Nat) (hp : M.has k.s.c k.ps.length pre) (hb : byt < k.s.c) (hn : k.nxt ≤ k.s.l) (q : Nat) (hq : q < (kL k).length) (hqn : M.nodeI k.s.c k.ps pre = q) (q2 : Nat) (hq2 : q2 < (kL k).length) (he : ((kL k)[q2]).1 = ((kL k)[q]).1 ++ [UInt8.ofNat byt]) :
    Calls Tryz.prog 98 #[.pointer (some ⟨g, 0, none⟩), .agg #[.int .i64 pre, .int .i64 byt]] W fun e W' => e = .returned (.tuple #[]) ∧ ∃ A0 c0 An cn Ai ci, TG w W' g k.s (k.ps ++ [(pre, byt)]) k.base k.last (M.nodesOf (kL k)) (M.idxs k.s.c k.ps ++ [q2]) A0 c0 An cn Ai ci := by
  have hc256 := hk.s.c256
  have hlt := hT.lt
  have HP := Lib.hid hp
  have HQ := Lib.hid hqn
  have HE := Lib.hid he
  have hps : k.ps.length ≤ 1024 := by have h1 := hk.nx; have := hk.s.l1024; unfold M.Kn.nxt at h1; omega
  obtain ⟨N, HN⟩ : ∃ N, Hid (M.nodesOf (kL k) = N) := ⟨_, rfl⟩
  obtain ⟨I, HI⟩ : ∃ I, Hid (M.idxs k.s.c k.ps = I) := ⟨_, rfl⟩
  have hIl : I.length ≤ 1024 := by rw [← HI.out, M.idxs_length]; exact hps
  have hT0 : TG w W g k.s k.ps k.base k.last N I A0 c0 An cn Ai ci := by rw [← HN.out, ← HI.out]; exact hT
  have HT := Lib.hid hT
  rw [HN.out, HI.out]
  clear hT
  have hb8 : byt % 256 = (UInt8.ofNat byt).toNat := by rw [UInt8.toNat_ofNat']
  have hb9 : byt % 256 = byt := Nat.mod_eq_of_lt (by omega)
  have HB8 : Hid (byt = (UInt8.ofNat byt).toNat) := by show _ = _; omega
  have hbz : byt ≤ 255 := by omega
  clear hp hqn he hb8 hb9
  go_enter Tryz.func98, Tryz.ntmps98
  go_wp2_with (first | (go_at_call 101; refine (v_nodeOf k hk w _ g A0 c0 An cn Ai ci (HT.out.up (by repeat' (first | (with_reducible exact G.refl _) | (with_reducible assumption) | (with_reducible refine G.alloc ?_ _) | (with_reducible refine G.drew ?_) | (with_reducible refine G.drewN ?_ _) | (refine G.setCell ?_ (by first | (simp <;> done) | (simp <;> omega)) _) | (with_reducible refine G.trans ?_ (by with_reducible assumption))))) pre HP.out).mono ?_; rintro e w' ⟨rfl, h1⟩; rw [HQ.out]; obtain ⟨hch1, hfh1⟩ := gcell h1; have hzA : W.heap.size < w'.heap.size := (by have := h1.size; simp at this; omega)) | (go_at_call 102; refine (v_child_yes k hk w _ g A0 c0 An cn Ai ci (HT.out.up (by repeat' (first | (with_reducible exact G.refl _) | (with_reducible assumption) | (with_reducible refine G.alloc ?_ _) | (with_reducible refine G.drew ?_) | (with_reducible refine G.drewN ?_ _) | (refine G.setCell ?_ (by first | (simp <;> done) | (simp <;> omega)) _) | (with_reducible refine G.trans ?_ (by with_reducible assumption))))) q hq (UInt8.ofNat byt) byt HB8.out q2 hq2 HE.out).mono ?_; rintro e w' ⟨rfl, h2⟩; obtain ⟨hch2, hfh2⟩ := gcell h2; have hT2 := hT0.up (W2 := w') (by repeat' (first | (with_reducible exact G.refl _) | (with_reducible assumption) | (with_reducible refine G.alloc ?_ _) | (with_reducible refine G.drew ?_) | (with_reducible refine G.drewN ?_ _) | (refine G.setCell ?_ (by first | (simp <;> done) | (simp <;> omega)) _) | (with_reducible refine G.trans ?_ (by with_reducible assumption)))); obtain ⟨q0, q1, q3, q4, q5, q6, q7, q8⟩ := hT2.cells; have hzB : W.heap.size < w'.heap.size := (by have := h1.size; have := h2.size; simp at *; omega)) | (at_builtin; refine app_int rfl (.tmp 66) (.tmp 68) rfl (g + 1) _ _ _ rfl (hT2.oi.alloc _) ⟨_, 0, none⟩ 1 1 [_] rfl rfl (cell_one_new _ _ _) (by simp [Value.oneCell']) (by omega) (by simp; omega) ?_; intro v3 w3 hownw3 hgw3 hatw3; obtain ⟨Ai3, ci3, rfl⟩ := own_form hownw3; obtain ⟨hg3, hfz3, s0, s1, s3, s4, s5, s6, s7, s8⟩ := (hT2.up ((G.refl _).alloc _)).farc hgw3 (own_above hT2.oi); have hT3 := (hT2.up ((G.refl _).alloc _)).app7 hgw3 hownw3 hatw3; have hpn : (Value.slice Ai I.length ci).ownBlock ≠ some W.heap.size := (fun e => by have := own_lt hT0.oi e; omega); have pc := fun o => GR.cell (show GR _ w3 _ from hgw3) (g := W.heap.size) (by simp; omega) hpn o) | fail)
  have hgne : g ≠ W.heap.size := by omega
  have p0 : (w3.setCell ⟨g, 7, none⟩ (.slice Ai3 (I.length + 1) ci3)).cell? ⟨W.heap.size, 0, none⟩ = some (.int .i64 pre) := by
    rw [World.cell?_setCell_other _ _ _ _ (by simp), pc 0]; go_cell
  have p1 : (w3.setCell ⟨g, 7, none⟩ (.slice Ai3 (I.length + 1) ci3)).cell? ⟨W.heap.size, 1, none⟩ = some (.int .i64 byt) := by
    rw [World.cell?_setCell_other _ _ _ _ (by simp), pc 1]; go_cell
  have hpl : W.heap.size < (w3.setCell ⟨g, 7, none⟩ (.slice Ai3 (I.length + 1) ci3)).heap.size := by have := hgw3.size; simp at this ⊢; omega
  have hT3c := hT3.cells
  have hT3l := hT3.lt
  have hT3f := hT3.fz
  generalize hW4 : w3.setCell ⟨g, 7, none⟩ (.slice Ai3 (I.length + 1) ci3) = w4 at *
  obtain ⟨t0, t1, t2, t3, t4, t5, t6, t7⟩ := hT3c
  clear pc hch1 hfh1 hch2 hfh2 hgw3 hownw3 hatw3 hfz3 s0 s1 s3 s4 s5 s6 s7 s8
  go_region_law (first | (refine step_app 38 38 Tryz.underlying38 pair_info (by rfl) (by omega) (by rfl) (.tmp 77) (.tmp 79) (by rfl) (g + 1) _ k.ps.length (cP k.ps) (by rfl) (own_g hT3.op (by repeat' (first | (with_reducible exact G.refl _) | (with_reducible assumption) | (with_reducible refine G.alloc ?_ _) | (with_reducible refine G.drew ?_) | (with_reducible refine G.drewN ?_ _) | (refine G.setCell ?_ (by first | (simp <;> done) | (simp <;> omega)) _) | (with_reducible refine G.trans ?_ (by with_reducible assumption))))) _ 1 (cP [(pre, byt)]) (by rfl) (src_pr _ _ (pre, byt) (heap_alloc_new w4 _)) (by omega) (by simp; omega) ?_; intro v5 w5 hown5 hg5 hat5; obtain ⟨A5, c5, rfl⟩ := own_form hown5; obtain ⟨hg6, hfz6, s0, s1, s3, s4, s5, s6, s7, s8⟩ := TG.farc (hT3.up (by repeat' (first | (with_reducible exact G.refl _) | (with_reducible assumption) | (with_reducible refine G.alloc ?_ _) | (with_reducible refine G.drew ?_) | (with_reducible refine G.drewN ?_ _) | (refine G.setCell ?_ (by first | (simp <;> done) | (simp <;> omega)) _) | (with_reducible refine G.trans ?_ (by with_reducible assumption))))) hg5 (own_above hT3.op); have hT6 := TG.app3 (hT3.up (by repeat' (first | (with_reducible exact G.refl _) | (with_reducible assumption) | (with_reducible refine G.alloc ?_ _) | (with_reducible refine G.drew ?_) | (with_reducible refine G.drewN ?_ _) | (refine G.setCell ?_ (by first | (simp <;> done) | (simp <;> omega)) _) | (with_reducible refine G.trans ?_ (by with_reducible assumption))))) (p := (pre, byt)) hg5 hown5 hat5) | fail)
  all_goals
    go_end0
    exact ⟨rfl, _, _, _, _, _, _, hT6⟩
end
end Go.Proofs.YtlaijbkonapdbaaGreat
