/-
  FnExactAppendDataSaid is proved: for every input FnExactAppendData returns true, and each argument reads afterwards as it read before; no conditions. Part 12 of 25.
-/
import Derived.Test.YtlaijbkonapdbaaGreatA11

set_option linter.all false

namespace Go.Proofs.YtlaijbkonapdbaaGreat
open Go.RowKit
attribute [local go_sem] grow_cell grow_frozen conv_one

theorem cN_set (N : List M.Nd) : ∀ (q : Nat) (x : M.Nd) (m : Int), N[q]? = some x → (cN N).set (q * 6 + 1) (.int .i64 m) = cN (N.set q { x with child := m }) := by
  induction N with
  | nil => intro q x m h; simp at h
  | cons a t ih =>
    intro q x m h
    cases q with
    | zero => simp at h; subst h; rfl
    | succ q =>
      have e : cN (a :: t) = [.int .i64 a.par, .int .i64 a.child, .int .i64 a.next, .int .u8 a.last, .int .u8 a.first, .int .i64 a.code] ++ cN t := rfl
      have e2 : cN ((a :: t).set (q + 1) { x with child := m }) = [.int .i64 a.par, .int .i64 a.child, .int .i64 a.next, .int .u8 a.last, .int .u8 a.first, .int .i64 a.code] ++ cN (t.set q { x with child := m }) := rfl
      rw [e, e2, ← ih q x m (by simpa using h), List.set_append_right _ _ (by simp; omega)]
      congr 2
      simp; omega
section
variable {w : FW} {W W2 : World} {g : Nat} {s : M.St} {ps : List (Nat × Nat)} {base : Nat} {last : Int} {N : List M.Nd} {I : List Nat} {A0 Ai : Option Addr} {c0 cn ci gn : Nat}
/-- a node's last child is written -/
theorem TG.setChild (h : TG w W g s ps base last N I A0 c0 (some ⟨gn, 0, none⟩) cn Ai ci) {q : Nat} {x : M.Nd} (hx : N[q]? = some x) (m : Int) :
    TG w (W.setCell ⟨gn, q * 6 + 1, none⟩ (.int .i64 m)) g s ps base last (N.set q { x with child := m }) I A0 c0 (some ⟨gn, 0, none⟩) cn Ai ci := by
  have hgn : g + 1 ≤ gn := own_base h.on rfl
  have hst := (h.on.stored (q * 6 + 1) (.int .i64 m)).1
  refine ⟨?_, ownsRow_setCell_other h.op (fun e => ?_) _, ?_, ownsRow_setCell_other h.oi (fun e => ?_) _, h.d1, h.d2, h.gb, G.setCell h.fr (by have := h.gb; show _ ≤ gn; omega) _, h.pr.set gn _ _ (h.pr.pn _ rfl)⟩
  · rw [set_far (by omega), List.length_set]; exact h.row
  · obtain ⟨a, ha, e2⟩ := ob_slice.1 e
    exact (h.d1 a ha).1 _ rfl e2.symm
  · rw [List.length_set, ← cN_set N q x m hx]; exact hst
  · obtain ⟨a, ha, e2⟩ := ob_slice.1 e
    exact h.d2 _ rfl a ha e2
end
/-- one node laid in a new row is a source -/
theorem src_nd (W : World) (g : Nat) (x : M.Nd) (h : W.heap[g]? = some (.cells #[.int .i64 x.par, .int .i64 x.child, .int .i64 x.next, .int .u8 x.last, .int .u8 x.first, .int .i64 x.code] 124 (0, 0))) :
    Src Tryz.prog 6 103 (.slice (some ⟨g, 0, none⟩) 1 1) 1 (cN [x]) W := by
  refine Src.ofRds Tryz.underlying103 ⟨rfl, fun _ => ⟨g, rfl, lt_of_block h, ?_⟩⟩ ?_
  · intro j u hu
    have e : cN [x] = [.int .i64 x.par, .int .i64 x.child, .int .i64 x.next, .int .u8 x.last, .int .u8 x.first, .int .i64 x.code] := rfl
    rw [e] at hu
    rw [cell_of_row W g j _ _ _ h]
    simpa using hu
  · intro u hu
    have e : cN [x] = [.int .i64 x.par, .int .i64 x.child, .int .i64 x.next, .int .u8 x.last, .int .u8 x.first, .int .i64 x.code] := rfl
    rw [e] at hu
    simp at hu
    rcases hu with rfl | rfl | rfl | rfl | rfl | rfl <;> rfl
/-- the facts that the statement which lays a node reads -/
def SN (w : World) (g u p : Nat) (v0 v1 v2 v3 v4 v5 v6 v7 v8 : Value) : Prop :=
  g < w.heap.size ∧ u < w.heap.size ∧ p < w.heap.size ∧ w.cell? ⟨g, 0, none⟩ = some v0 ∧ w.cell? ⟨g, 1, none⟩ = some v1 ∧ w.cell? ⟨g, 2, none⟩ = some v2 ∧ w.cell? ⟨g, 3, none⟩ = some v3 ∧ w.cell? ⟨g, 4, none⟩ = some v4 ∧ w.cell? ⟨g, 5, none⟩ = some v5 ∧ w.cell? ⟨u, 1, none⟩ = some v6 ∧ w.cell? ⟨u, 4, none⟩ = some v7 ∧ w.cell? ⟨p, 1, none⟩ = some v8
theorem SN.up {w w' : World} {g u p : Nat} {v0 v1 v2 v3 v4 v5 v6 v7 v8 : Value} (h : SN w g u p v0 v1 v2 v3 v4 v5 v6 v7 v8) (hg : G w w') : SN w' g u p v0 v1 v2 v3 v4 v5 v6 v7 v8 := by
  obtain ⟨a, b, c, h0, h1, h2, h3, h4, h5, h6, h7, h8⟩ := h
  have hs := hg.size
  exact ⟨by omega, by omega, by omega, (hg.cell (p := ⟨g, 0, none⟩) a).trans h0, (hg.cell (p := ⟨g, 1, none⟩) a).trans h1, (hg.cell (p := ⟨g, 2, none⟩) a).trans h2, (hg.cell (p := ⟨g, 3, none⟩) a).trans h3, (hg.cell (p := ⟨g, 4, none⟩) a).trans h4, (hg.cell (p := ⟨g, 5, none⟩) a).trans h5, (hg.cell (p := ⟨u, 1, none⟩) b).trans h6, (hg.cell (p := ⟨u, 4, none⟩) b).trans h7, (hg.cell (p := ⟨p, 1, none⟩) c).trans h8⟩
theorem SN.gr {w w' : World} {g u p : Nat} {v0 v1 v2 v3 v4 v5 v6 v7 v8 : Value} {r : Option Nat} (h : SN w g u p v0 v1 v2 v3 v4 v5 v6 v7 v8) (hg : w.grownBy w' r) (hr1 : r ≠ some g) (hr2 : r ≠ some u) (hr3 : r ≠ some p) : SN w' g u p v0 v1 v2 v3 v4 v5 v6 v7 v8 := by
  obtain ⟨a, b, c, h0, h1, h2, h3, h4, h5, h6, h7, h8⟩ := h
  have hg' : GR w w' r := hg
  have hs := hg.size
  exact ⟨by omega, by omega, by omega, (hg'.cell a hr1 0).trans h0, (hg'.cell a hr1 1).trans h1, (hg'.cell a hr1 2).trans h2, (hg'.cell a hr1 3).trans h3, (hg'.cell a hr1 4).trans h4, (hg'.cell a hr1 5).trans h5, (hg'.cell b hr2 1).trans h6, (hg'.cell b hr2 4).trans h7, (hg'.cell c hr3 1).trans h8⟩

theorem SN.st {w : World} {g u p : Nat} {v0 v1 v2 v3 v4 v5 v6 v7 v8 : Value} (h : SN w g u p v0 v1 v2 v3 v4 v5 v6 v7 v8) (v : Value) (hu : u ≠ g) (hp : p ≠ g) : SN (w.setCell ⟨g, 6, none⟩ v) g u p v0 v1 v2 v3 v4 v5 v6 v7 v8 := by
  obtain ⟨a, b, c, h0, h1, h2, h3, h4, h5, h6, h7, h8⟩ := h
  refine ⟨by simpa using a, by simpa using b, by simpa using c, ?_, ?_, ?_, ?_, ?_, ?_, ?_, ?_, ?_⟩
  all_goals (rw [World.cell?_setCell_other _ _ _ _ (by simp <;> omega)]; assumption)
section
variable (k : M.Kn) (hk : TV k) (w : FW) (W : World) (g : Nat) (A0 : Option Addr) (c0 : Nat) (An : Option Addr) (cn : Nat) (Ai : Option Addr) (ci : Nat) (hT : TB w W g k A0 c0 An cn Ai ci)
include hk hT
set_option maxRecDepth 8000 in
set_option maxHeartbeats 4000000 in
theorem v_learn_no (pre byt : Nat) (hp : M.has k.s.c k.ps.length pre) (hb : byt < k.s.c) (hn : k.nxt ≤ k.s.l) (q : Nat) (hq : q < (kL k).length) (hqn : M.nodeI k.s.c k.ps pre = q) (he : ¬ M.inL (kL k) (((kL k)[q]).1 ++ [UInt8.ofNat byt])) :
    Calls Tryz.prog 98 #[.pointer (some ⟨g, 0, none⟩), .agg #[.int .i64 pre, .int .i64 byt]] W fun e W' => e = .returned (.tuple #[]) ∧ ∃ A0 c0 An cn Ai ci, TG w W' g k.s (k.ps ++ [(pre, byt)]) k.base k.last ((M.nodesOf (kL k) ++ [({ par := q, child := -1, next := (M.nd (kL k) q).child, last := byt, first := (M.nd (kL k) q).first, code := k.nxt } : M.Nd)]).set q { M.nd (kL k) q with child := ((kL k).length : Int) }) (M.idxs k.s.c k.ps ++ [(kL k).length]) A0 c0 An cn Ai ci := by
  have hc256 := hk.s.c256
  have hlt := hT.lt
  have HP := Lib.hid hp
  have HQ := Lib.hid hqn
  have HE := Lib.hid he
  have hps : k.ps.length ≤ 1024 := by have h1 := hk.nx; have := hk.s.l1024; unfold M.Kn.nxt at h1; omega
  have hkl := (kL_len k hk w W g A0 c0 An cn Ai ci hT).2
  have HND := Lib.hid (M.nodesOf_get (kL k) q hq)
  obtain ⟨N, HN⟩ : ∃ N, Hid (M.nodesOf (kL k) = N) := ⟨_, rfl⟩
  obtain ⟨I, HI⟩ : ∃ I, Hid (M.idxs k.s.c k.ps = I) := ⟨_, rfl⟩
  obtain ⟨x, HX⟩ : ∃ x, Hid (M.nd (kL k) q = x) := ⟨_, rfl⟩
  have hIl : I.length ≤ 1024 := by rw [← HI.out, M.idxs_length]; exact hps
  have hNl : N.length ≤ 2048 := by rw [← HN.out, M.nodesOf_length]; exact hkl
  have hqN : q < N.length := by rw [← HN.out, M.nodesOf_length]; exact hq
  have hlN : (kL k).length = N.length := by rw [← HN.out, M.nodesOf_length]
  have hNx : N[q]? = some x := by rw [← HN.out, ← HX.out]; exact HND.out
  have hT0 : TG w W g k.s k.ps k.base k.last N I A0 c0 An cn Ai ci := by rw [← HN.out, ← HI.out]; exact hT
  have HT := Lib.hid hT
  have HNX := Lib.hid hNx
  rw [HN.out, HI.out, HX.out, hlN]
  have hfl : x.first < 256 := by rw [← HX.out]; simp only [M.nd]; exact UInt8.toNat_lt _
  have hll : x.last < 256 := by rw [← HX.out]; simp only [M.nd]; exact UInt8.toNat_lt _
  have hb8 : byt % 256 = (UInt8.ofNat byt).toNat := by rw [UInt8.toNat_ofNat']
  have hb9 : byt % 256 = byt := Nat.mod_eq_of_lt (by omega)
  have HB8 : Hid (byt = (UInt8.ofNat byt).toNat) := by show _ = _; omega
  have hbz : byt ≤ 255 := by omega
  obtain ⟨gn, hAn, hgn, hcell⟩ := (Rds.own hT0.on).at_ (by omega)
  subst hAn
  obtain ⟨d0, d1, d2, d3, d4, d5⟩ := cN_get _ q _ hNx
  have e0 := hcell _ _ d0
  have e1 := hcell _ _ d1
  have e2 := hcell _ _ d2
  have e3 := hcell _ _ d3
  have e4 := hcell _ _ d4
  have e5 := hcell _ _ d5
  have hgng : g + 1 ≤ gn := own_base hT0.on rfl
  have HL := Lib.hid hlN
  clear hp hqn he hb8 hb9 hT hNx hcell d0 d1 d2 d3 d4 d5 hlN hkl
  go_enter Tryz.func98, Tryz.ntmps98
  go_wp2_with (first | (go_at_call 101; refine (v_nodeOf k hk w _ g A0 c0 _ cn Ai ci (HT.out.up (by repeat' (first | (with_reducible exact G.refl _) | (with_reducible assumption) | (with_reducible refine G.alloc ?_ _) | (with_reducible refine G.drew ?_) | (with_reducible refine G.drewN ?_ _) | (refine G.setCell ?_ (by first | (simp <;> done) | (simp <;> omega)) _) | (with_reducible refine G.trans ?_ (by with_reducible assumption))))) pre HP.out).mono ?_; rintro e w' ⟨rfl, h1⟩; rw [HQ.out]; obtain ⟨hch1, hfh1⟩ := gcell h1; have hzA : W.heap.size < w'.heap.size := (by have := h1.size; simp at this; omega)) | (go_at_call 102; refine (v_child_no k hk w _ g A0 c0 _ cn Ai ci (HT.out.up (by repeat' (first | (with_reducible exact G.refl _) | (with_reducible assumption) | (with_reducible refine G.alloc ?_ _) | (with_reducible refine G.drew ?_) | (with_reducible refine G.drewN ?_ _) | (refine G.setCell ?_ (by first | (simp <;> done) | (simp <;> omega)) _) | (with_reducible refine G.trans ?_ (by with_reducible assumption))))) q hq (UInt8.ofNat byt) byt HB8.out HE.out).mono ?_; rintro e w' ⟨rfl, h2⟩; obtain ⟨hch2, hfh2⟩ := gcell h2; have hT2 := hT0.up (W2 := w') (by repeat' (first | (with_reducible exact G.refl _) | (with_reducible assumption) | (with_reducible refine G.alloc ?_ _) | (with_reducible refine G.drew ?_) | (with_reducible refine G.drewN ?_ _) | (refine G.setCell ?_ (by first | (simp <;> done) | (simp <;> omega)) _) | (with_reducible refine G.trans ?_ (by with_reducible assumption)))); obtain ⟨q0, q1, q3, q4, q5, q6, q7, q8⟩ := hT2.cells; have hzB : W.heap.size < w'.heap.size := (by have := h1.size; have := h2.size; simp at *; omega); have hzC : gn < w'.heap.size := (by have := h1.size; have := h2.size; simp at *; omega); have hGw : G W w' := (by repeat' (first | (with_reducible exact G.refl _) | (with_reducible assumption) | (with_reducible refine G.alloc ?_ _) | (with_reducible refine G.drew ?_) | (with_reducible refine G.drewN ?_ _) | (refine G.setCell ?_ (by first | (simp <;> done) | (simp <;> omega)) _) | (with_reducible refine G.trans ?_ (by with_reducible assumption)))); have f0 := (hGw.cell (p := ⟨gn, q * 6, none⟩) hgn).trans e0; have f1 := (hGw.cell (p := ⟨gn, q * 6 + 1, none⟩) hgn).trans e1; have f2 := (hGw.cell (p := ⟨gn, q * 6 + 2, none⟩) hgn).trans e2; have f3 := (hGw.cell (p := ⟨gn, q * 6 + 3, none⟩) hgn).trans e3; have f4 := (hGw.cell (p := ⟨gn, q * 6 + 4, none⟩) hgn).trans e4; have f5 := (hGw.cell (p := ⟨gn, q * 6 + 5, none⟩) hgn).trans e5; have p1 : w'.cell? ⟨W.heap.size, 1, none⟩ = some (.int .i64 byt) := (by go_cell); have p0 : w'.cell? ⟨W.heap.size, 0, none⟩ = some (.int .i64 pre) := (by go_cell)) | fail)
  obtain ⟨u, hu⟩ : ∃ u, u = w'.heap.size := ⟨_, rfl⟩
  obtain ⟨pb, hpb⟩ : ∃ pb, pb = W.heap.size := ⟨_, rfl⟩
  rw [← hu, ← hpb]
  have hAip : (Value.slice Ai I.length ci).ownBlock ≠ some pb := by rw [hpb]; intro e; have := own_lt hT0.oi e; omega
  have hne1 : gn < pb := by omega
  have hne2 : gn < u := by omega
  have hne3 : g < gn := by omega
  refine wp_gen (fun W1 => TG w W1 g k.s k.ps k.base k.last N I A0 c0 (some ⟨gn, 0, none⟩) cn Ai ci ∧ W1.cell? ⟨pb, 0, none⟩ = some (.int .i64 pre) ∧ g < (W1).heap.size ∧ u < (W1).heap.size ∧ pb < (W1).heap.size ∧ (W1).cell? ⟨g, 0, none⟩ = some (.int .i64 k.s.ord) ∧ (W1).cell? ⟨g, 1, none⟩ = some (.int .i64 k.s.lit) ∧ (W1).cell? ⟨g, 2, none⟩ = some (.int .i64 k.s.most) ∧ (W1).cell? ⟨g, 3, none⟩ = some (.slice A0 k.ps.length c0) ∧ (W1).cell? ⟨g, 4, none⟩ = some (.int .i64 k.base) ∧ (W1).cell? ⟨g, 5, none⟩ = some (.int .i64 k.last) ∧ (W1).cell? ⟨u, 1, none⟩ = some (.int .i64 x.child) ∧ (W1).cell? ⟨u, 4, none⟩ = some (.int .u8 x.first) ∧ (W1).cell? ⟨pb, 1, none⟩ = some (.int .i64 byt)) ?_ ?_
  · subst hu hpb
    have hTq := hT2.up (W2 := w'.alloc (.cells #[.int .i64 x.par, .int .i64 x.child, .int .i64 x.next, .int .u8 x.last, .int .u8 x.first, .int .i64 x.code] 124)) (by repeat' (first | (with_reducible exact G.refl _) | (with_reducible assumption) | (with_reducible refine G.alloc ?_ _) | (with_reducible refine G.drew ?_) | (with_reducible refine G.drewN ?_ _) | (refine G.setCell ?_ (by first | (simp <;> done) | (simp <;> omega)) _) | (with_reducible refine G.trans ?_ (by with_reducible assumption))))
    have hc := hTq.cells
    exact ⟨hTq, by go_cell, by simp; omega, by simp, by simp; omega, hc.1, hc.2.1, hc.2.2.1, hc.2.2.2.1, hc.2.2.2.2.1, hc.2.2.2.2.2.1, by go_cell, by go_cell, by go_cell⟩
  rintro W1 ⟨hT1, hp0, hSN1⟩
  have hT1l := hT1.lt
  have hg6c := hT1.cells.2.2.2.2.2.2.1
  have hg6f := hT1.fz
  have hpbl : pb < W1.heap.size := hSN1.2.2.1
  have hwb : IntKind.u8.wrap (byt : Int) = byt := by rw [IntKind.wrap_u8]; omega
  clear hch1 hfh1 hch2 hfh2 h1 h2 hT2 q0 q1 q3 q4 q5 q6 q7 q8 hGw f0 f1 f2 f3 f4 f5 p0 p1 e0 e1 e2 e3 e4 e5 hu hpb
  refine wp_region_held_drew (S := fun w' => g < (w').heap.size ∧ u < (w').heap.size ∧ pb < (w').heap.size ∧ (w').cell? ⟨g, 0, none⟩ = some (.int .i64 k.s.ord) ∧ (w').cell? ⟨g, 1, none⟩ = some (.int .i64 k.s.lit) ∧ (w').cell? ⟨g, 2, none⟩ = some (.int .i64 k.s.most) ∧ (w').cell? ⟨g, 3, none⟩ = some (.slice A0 k.ps.length c0) ∧ (w').cell? ⟨g, 4, none⟩ = some (.int .i64 k.base) ∧ (w').cell? ⟨g, 5, none⟩ = some (.int .i64 k.last) ∧ (w').cell? ⟨u, 1, none⟩ = some (.int .i64 x.child) ∧ (w').cell? ⟨u, 4, none⟩ = some (.int .u8 x.first) ∧ (w').cell? ⟨pb, 1, none⟩ = some (.int .i64 byt)) (by kernel_rfl) (by (try dsimp only); first | exact hSN9 | exact SN.st hSN9 _ (by omega) (by omega) | exact SN.up hSN1 (by repeat' (first | (with_reducible exact G.refl _) | (with_reducible assumption) | (with_reducible refine G.alloc ?_ _) | (with_reducible refine G.drew ?_) | (with_reducible refine G.drewN ?_ _) | (refine G.setCell ?_ (by first | (simp <;> done) | (simp <;> omega)) _) | (with_reducible refine G.trans ?_ (by with_reducible assumption))))) (fun hHeld => ?_)
  (refine wpAnyH_take (i := 0) (v := ?_) (by simp only [List.getElem?_toArray, List.getElem?_cons_succ, List.getElem?_cons_zero]; rfl) (by kernel_rfl) (by kernel_rfl) (by kernel_rfl) (by exact fun _ _ _ h => h) (Or.inl ⟨by rfl, ?_⟩) (by assumption) ?_; rotate_left; (focus (intro wq hSw; (try dsimp only at hSw); go_simp; (try (with_reducible rfl)))); (try simp only [Act.put, List.setIfInBounds_toArray, List.set_cons_zero, List.set_cons_succ]))
  (refine wpAnyH_take (i := 1) (v := ?_) (by simp only [List.getElem?_toArray, List.getElem?_cons_succ, List.getElem?_cons_zero]; rfl) (by kernel_rfl) (by kernel_rfl) (by kernel_rfl) (by exact fun _ _ _ h => h) (Or.inl ⟨by rfl, ?_⟩) (by assumption) ?_; rotate_left; (focus (intro wq hSw; (try dsimp only at hSw); go_simp; (try (with_reducible rfl)))); (try simp only [Act.put, List.setIfInBounds_toArray, List.set_cons_zero, List.set_cons_succ]))
  (refine wpAnyH_take (i := 2) (v := ?_) (by simp only [List.getElem?_toArray, List.getElem?_cons_succ, List.getElem?_cons_zero]; rfl) (by kernel_rfl) (by kernel_rfl) (by kernel_rfl) (by exact fun _ _ _ h => h) (Or.inl ⟨by rfl, ?_⟩) (by assumption) ?_; rotate_left; (focus (intro wq hSw; (try dsimp only at hSw); go_simp; (try (with_reducible rfl)))); (try simp only [Act.put, List.setIfInBounds_toArray, List.set_cons_zero, List.set_cons_succ]))
  (refine wpAnyH_take (i := 3) (v := ?_) (by simp only [List.getElem?_toArray, List.getElem?_cons_succ, List.getElem?_cons_zero]; rfl) (by kernel_rfl) (by kernel_rfl) (by kernel_rfl) (by exact fun _ _ _ h => h) (Or.inl ⟨by rfl, ?_⟩) (by assumption) ?_; rotate_left; (focus (intro wq hSw; (try dsimp only at hSw); go_simp; (try (with_reducible rfl)))); (try simp only [Act.put, List.setIfInBounds_toArray, List.set_cons_zero, List.set_cons_succ]))
  (refine wpAnyH_take (i := 5) (v := ?_) (by simp only [List.getElem?_toArray, List.getElem?_cons_succ, List.getElem?_cons_zero]; rfl) (by kernel_rfl) (by kernel_rfl) (by kernel_rfl) (by exact fun _ _ _ h => h) (Or.inl ⟨by rfl, ?_⟩) (by assumption) ?_; rotate_left; (focus (intro wq hSw; (try dsimp only at hSw); go_simp; (try (with_reducible rfl)))); (try simp only [Act.put, List.setIfInBounds_toArray, List.set_cons_zero, List.set_cons_succ]))
  (refine wpAnyH_take (i := 6) (v := ?_) (by simp only [List.getElem?_toArray, List.getElem?_cons_succ, List.getElem?_cons_zero]; rfl) (by kernel_rfl) (by kernel_rfl) (by kernel_rfl) (by exact fun _ _ _ h => h) (Or.inl ⟨by rfl, ?_⟩) (by assumption) ?_; rotate_left; (focus (intro wq hSw; (try dsimp only at hSw); go_simp; (try (with_reducible rfl)))); (try simp only [Act.put, List.setIfInBounds_toArray, List.set_cons_zero, List.set_cons_succ]))
  (refine wpAnyH_take (i := 7) (v := ?_) (by simp only [List.getElem?_toArray, List.getElem?_cons_succ, List.getElem?_cons_zero]; rfl) (by kernel_rfl) (by kernel_rfl) (by kernel_rfl) (by exact fun _ _ _ h => h) (Or.inl ⟨by rfl, ?_⟩) (by assumption) ?_; rotate_left; (focus (intro wq hSw; (try dsimp only at hSw); go_simp; (try (with_reducible rfl)))); (try simp only [Act.put, List.setIfInBounds_toArray, List.set_cons_zero, List.set_cons_succ]))
  (refine wpAnyH_take (i := 8) (v := ?_) (by simp only [List.getElem?_toArray, List.getElem?_cons_succ, List.getElem?_cons_zero]; rfl) (by kernel_rfl) (by kernel_rfl) (by kernel_rfl) (by exact fun _ _ _ h => h) (Or.inl ⟨by rfl, ?_⟩) (by assumption) ?_; rotate_left; (focus (intro wq hSw; (try dsimp only at hSw); go_simp; (try (with_reducible rfl)))); (try simp only [Act.put, List.setIfInBounds_toArray, List.set_cons_zero, List.set_cons_succ]))
  (refine wpAnyH_take (i := 9) (v := ?_) (by simp only [List.getElem?_toArray, List.getElem?_cons_succ, List.getElem?_cons_zero]; rfl) (by kernel_rfl) (by kernel_rfl) (by kernel_rfl) (by exact fun _ _ _ h => h) (Or.inl ⟨by rfl, ?_⟩) (by assumption) ?_; rotate_left; (focus (intro wq hSw; (try dsimp only at hSw); go_simp; (try (with_reducible rfl)))); (try simp only [Act.put, List.setIfInBounds_toArray, List.set_cons_zero, List.set_cons_succ]))
  (refine wpAnyH_take (i := 10) (v := ?_) (by simp only [List.getElem?_toArray, List.getElem?_cons_succ, List.getElem?_cons_zero]; rfl) (by kernel_rfl) (by kernel_rfl) (by kernel_rfl) (by exact fun _ _ _ h => h) (Or.inl ⟨by rfl, ?_⟩) (by assumption) ?_; rotate_left; (focus (intro wq hSw; (try dsimp only at hSw); go_simp; (try (with_reducible rfl)))); (try simp only [Act.put, List.setIfInBounds_toArray, List.set_cons_zero, List.set_cons_succ]))
  (refine wpAnyH_take (i := 11) (v := ?_) (by simp only [List.getElem?_toArray, List.getElem?_cons_succ, List.getElem?_cons_zero]; rfl) (by kernel_rfl) (by kernel_rfl) (by kernel_rfl) (by exact fun _ _ _ h => h) (Or.inl ⟨by rfl, ?_⟩) (by assumption) ?_; rotate_left; (focus (intro wq hSw; (try dsimp only at hSw); go_simp; (try (with_reducible rfl)))); (try simp only [Act.put, List.setIfInBounds_toArray, List.set_cons_zero, List.set_cons_succ]))
  (refine wpAnyH_take (i := 12) (v := ?_) (by simp only [List.getElem?_toArray, List.getElem?_cons_succ, List.getElem?_cons_zero]; rfl) (by kernel_rfl) (by kernel_rfl) (by kernel_rfl) (by exact fun _ _ _ h => h) (Or.inl ⟨by rfl, ?_⟩) (by assumption) ?_; rotate_left; (focus (intro wq hSw; (try dsimp only at hSw); go_simp; (try (with_reducible rfl)))); (try simp only [Act.put, List.setIfInBounds_toArray, List.set_cons_zero, List.set_cons_succ]))
  (refine wpAnyH_take (i := 13) (v := ?_) (by simp only [List.getElem?_toArray, List.getElem?_cons_succ, List.getElem?_cons_zero]; rfl) (by kernel_rfl) (by kernel_rfl) (by kernel_rfl) (by exact fun _ _ _ h => h) (Or.inl ⟨by rfl, ?_⟩) (by assumption) ?_; rotate_left; (focus (intro wq hSw; (try dsimp only at hSw); go_simp; (try (with_reducible rfl)))); (try simp only [Act.put, List.setIfInBounds_toArray, List.set_cons_zero, List.set_cons_succ]))
  (refine wpAnyH_take (i := 14) (v := ?_) (by simp only [List.getElem?_toArray, List.getElem?_cons_succ, List.getElem?_cons_zero]; rfl) (by kernel_rfl) (by kernel_rfl) (by kernel_rfl) (by exact fun _ _ _ h => h) (Or.inl ⟨by rfl, ?_⟩) (by assumption) ?_; rotate_left; (focus (intro wq hSw; (try dsimp only at hSw); go_simp; (try (with_reducible rfl)))); (try simp only [Act.put, List.setIfInBounds_toArray, List.set_cons_zero, List.set_cons_succ]))
  (refine wpAnyH_take (i := 15) (v := ?_) (by simp only [List.getElem?_toArray, List.getElem?_cons_succ, List.getElem?_cons_zero]; rfl) (by kernel_rfl) (by kernel_rfl) (by kernel_rfl) (by exact fun _ _ _ h => h) (Or.inl ⟨by rfl, ?_⟩) (by assumption) ?_; rotate_left; (focus (intro wq hSw; (try dsimp only at hSw); go_simp; (try (with_reducible rfl)))); (try simp only [Act.put, List.setIfInBounds_toArray, List.set_cons_zero, List.set_cons_succ]))
  (refine wpAnyH_take (i := 16) (v := ?_) (by simp only [List.getElem?_toArray, List.getElem?_cons_succ, List.getElem?_cons_zero]; rfl) (by kernel_rfl) (by kernel_rfl) (by kernel_rfl) (by exact fun _ _ _ h => h) (Or.inl ⟨by rfl, ?_⟩) (by assumption) ?_; rotate_left; (focus (intro wq hSw; (try dsimp only at hSw); go_simp; (try (with_reducible rfl)))); (try simp only [Act.put, List.setIfInBounds_toArray, List.set_cons_zero, List.set_cons_succ]))
  refine wpAnyH_ready (rs := [4, 17]) (by kernel_rfl) (by simp) ?_
  (refine AllReadyH.cons (by simp only [List.getElem?_toArray, List.getElem?_cons_succ, List.getElem?_cons_zero]; rfl) (fun K hK => ?_) ?_)
  go_simp
  (refine hK.out _ _ ?_ (fun hHeld => ?_); (focus ((try dsimp only); first | exact hSN9 | exact SN.st hSN9 _ (by omega) (by omega) | exact SN.up hSN1 (by repeat' (first | (with_reducible exact G.refl _) | (with_reducible assumption) | (with_reducible refine G.alloc ?_ _) | (with_reducible refine G.drew ?_) | (with_reducible refine G.drewN ?_ _) | (refine G.setCell ?_ (by first | (simp <;> done) | (simp <;> omega)) _) | (with_reducible refine G.trans ?_ (by with_reducible assumption)))))); clear hK K; (try simp only [Act.put, List.setIfInBounds_toArray, List.set_cons_zero, List.set_cons_succ]))
  refine wpAnyH_ready (rs := [17]) (by kernel_rfl) (by simp) ?_
  (refine AllReadyH.cons (by simp only [List.getElem?_toArray, List.getElem?_cons_succ, List.getElem?_cons_zero]; rfl) (fun K hK => ?_) ?_)
  (first | (refine step_fn ?_ 100 #[.tmp 47] #[40] ?_ #[knV k A0 c0] ?_ cf_nextWord ?_; exact rfl; exact rfl; (simp only [List.map_toArray, List.map_cons, List.map_nil, Act.eval]; rfl); refine (v_nextWord2 k hk A0 c0 _).mono ?_; rintro e wN ⟨rfl, h5⟩; obtain ⟨hch5, hfh5⟩ := gcell h5; have hsN := h5.size; (try simp only [World.size_drew, World.size_alloc] at hsN); have hzN : g < wN.heap.size := (by omega); have hg6N := (hch5 g 6 (by simp; omega)).trans hg6c; have hp0N := (hch5 pb 0 (by simp; omega)).trans hp0; have hpbN : pb < wN.heap.size := (by omega); refine ⟨_, rfl, ?_⟩) | (refine step_app 103 103 Tryz.underlying103 node_info (by rfl) (by omega) (by rfl) (.tmp 35) (.tmp 50) (by rfl) (g + 1) _ N.length (cN N) (by rfl) (own_g hT1.on (by repeat' (first | (with_reducible exact G.refl _) | (with_reducible assumption) | (with_reducible refine G.alloc ?_ _) | (with_reducible refine G.drew ?_) | (with_reducible refine G.drewN ?_ _) | (refine G.setCell ?_ (by first | (simp <;> done) | (simp <;> omega)) _) | (with_reducible refine G.trans ?_ (by with_reducible assumption))))) _ 1 (cN [({ par := q, child := -1, next := x.child, last := byt, first := x.first, code := k.nxt } : M.Nd)]) (by rfl) (src_nd _ _ ({ par := q, child := -1, next := x.child, last := byt, first := x.first, code := k.nxt } : M.Nd) (heap_alloc_new _ _)) (by omega) (by simp; omega) ?_; intro v5 w5 hown5 hg5 hat5; obtain ⟨A5, c5, rfl⟩ := own_form hown5; obtain ⟨hg6, hfz6, s0, s1, s3, s4, s5, s6, s7, s8⟩ := TG.farc (hT1.up (by repeat' (first | (with_reducible exact G.refl _) | (with_reducible assumption) | (with_reducible refine G.alloc ?_ _) | (with_reducible refine G.drew ?_) | (with_reducible refine G.drewN ?_ _) | (refine G.setCell ?_ (by first | (simp <;> done) | (simp <;> omega)) _) | (with_reducible refine G.trans ?_ (by with_reducible assumption))))) hg5 (own_above hT1.on); have hT6 := TG.app6 (hT1.up (by repeat' (first | (with_reducible exact G.refl _) | (with_reducible assumption) | (with_reducible refine G.alloc ?_ _) | (with_reducible refine G.drew ?_) | (with_reducible refine G.drewN ?_ _) | (refine G.setCell ?_ (by first | (simp <;> done) | (simp <;> omega)) _) | (with_reducible refine G.trans ?_ (by with_reducible assumption))))) (x := ({ par := q, child := -1, next := x.child, last := byt, first := x.first, code := k.nxt } : M.Nd)) hg5 hown5 hat5; have hSN9 := SN.gr (SN.up hSN1 (by repeat' (first | (with_reducible exact G.refl _) | (with_reducible assumption) | (with_reducible refine G.alloc ?_ _) | (with_reducible refine G.drew ?_) | (with_reducible refine G.drewN ?_ _) | (refine G.setCell ?_ (by first | (simp <;> done) | (simp <;> omega)) _) | (with_reducible refine G.trans ?_ (by with_reducible assumption))))) hg5 (by simp [Value.ownBlock]; omega) (by simp [Value.ownBlock]; omega) (by simp [Value.ownBlock]; omega)) | fail)
  (refine hK.out _ _ ?_ (fun hHeld => ?_); (focus ((try dsimp only); first | exact hSN9 | exact SN.st hSN9 _ (by omega) (by omega) | exact SN.up hSN1 (by repeat' (first | (with_reducible exact G.refl _) | (with_reducible assumption) | (with_reducible refine G.alloc ?_ _) | (with_reducible refine G.drew ?_) | (with_reducible refine G.drewN ?_ _) | (refine G.setCell ?_ (by first | (simp <;> done) | (simp <;> omega)) _) | (with_reducible refine G.trans ?_ (by with_reducible assumption)))))); clear hK K; (try simp only [Act.put, List.setIfInBounds_toArray, List.set_cons_zero, List.set_cons_succ]))
  (refine wpAnyH_take (i := 18) (v := ?_) (by simp only [List.getElem?_toArray, List.getElem?_cons_succ, List.getElem?_cons_zero]; rfl) (by kernel_rfl) (by kernel_rfl) (by kernel_rfl) (by exact fun _ _ _ h => h) (Or.inl ⟨by rfl, ?_⟩) (by assumption) ?_; rotate_left; (focus (intro wq hSw; (try dsimp only at hSw); go_simp; (try (with_reducible rfl)))); (try simp only [Act.put, List.setIfInBounds_toArray, List.set_cons_zero, List.set_cons_succ]))
  refine wpAnyH_ready (rs := [19]) (by kernel_rfl) (by simp) ?_
  (refine AllReadyH.cons (by simp only [List.getElem?_toArray, List.getElem?_cons_succ, List.getElem?_cons_zero]; rfl) (fun K hK => ?_) ?_)
  go_simp
  (refine hK.out _ _ ?_ (fun hHeld => ?_); (focus ((try dsimp only); first | exact hSN9 | exact SN.st hSN9 _ (by omega) (by omega) | exact SN.up hSN1 (by repeat' (first | (with_reducible exact G.refl _) | (with_reducible assumption) | (with_reducible refine G.alloc ?_ _) | (with_reducible refine G.drew ?_) | (with_reducible refine G.drewN ?_ _) | (refine G.setCell ?_ (by first | (simp <;> done) | (simp <;> omega)) _) | (with_reducible refine G.trans ?_ (by with_reducible assumption)))))); clear hK K; (try simp only [Act.put, List.setIfInBounds_toArray, List.set_cons_zero, List.set_cons_succ]))
  refine wpAnyH_ready (rs := [20]) (by kernel_rfl) (by simp) ?_
  (refine AllReadyH.cons (by simp only [List.getElem?_toArray, List.getElem?_cons_succ, List.getElem?_cons_zero]; rfl) (fun K hK => ?_) ?_)
  (first | (refine step_fn ?_ 100 #[.tmp 47] #[40] ?_ #[knV k A0 c0] ?_ cf_nextWord ?_; exact rfl; exact rfl; (simp only [List.map_toArray, List.map_cons, List.map_nil, Act.eval]; rfl); refine (v_nextWord2 k hk A0 c0 _).mono ?_; rintro e wN ⟨rfl, h5⟩; obtain ⟨hch5, hfh5⟩ := gcell h5; have hsN := h5.size; (try simp only [World.size_drew, World.size_alloc] at hsN); have hzN : g < wN.heap.size := (by omega); have hg6N := (hch5 g 6 (by simp; omega)).trans hg6c; have hp0N := (hch5 pb 0 (by simp; omega)).trans hp0; have hpbN : pb < wN.heap.size := (by omega); refine ⟨_, rfl, ?_⟩) | (refine step_app 103 103 Tryz.underlying103 node_info (by rfl) (by omega) (by rfl) (.tmp 35) (.tmp 50) (by rfl) (g + 1) _ N.length (cN N) (by rfl) (own_g hT1.on (by repeat' (first | (with_reducible exact G.refl _) | (with_reducible assumption) | (with_reducible refine G.alloc ?_ _) | (with_reducible refine G.drew ?_) | (with_reducible refine G.drewN ?_ _) | (refine G.setCell ?_ (by first | (simp <;> done) | (simp <;> omega)) _) | (with_reducible refine G.trans ?_ (by with_reducible assumption))))) _ 1 (cN [({ par := q, child := -1, next := x.child, last := byt, first := x.first, code := k.nxt } : M.Nd)]) (by rfl) (src_nd _ _ ({ par := q, child := -1, next := x.child, last := byt, first := x.first, code := k.nxt } : M.Nd) (heap_alloc_new _ _)) (by omega) (by simp; omega) ?_; intro v5 w5 hown5 hg5 hat5; obtain ⟨A5, c5, rfl⟩ := own_form hown5; obtain ⟨hg6, hfz6, s0, s1, s3, s4, s5, s6, s7, s8⟩ := TG.farc (hT1.up (by repeat' (first | (with_reducible exact G.refl _) | (with_reducible assumption) | (with_reducible refine G.alloc ?_ _) | (with_reducible refine G.drew ?_) | (with_reducible refine G.drewN ?_ _) | (refine G.setCell ?_ (by first | (simp <;> done) | (simp <;> omega)) _) | (with_reducible refine G.trans ?_ (by with_reducible assumption))))) hg5 (own_above hT1.on); have hT6 := TG.app6 (hT1.up (by repeat' (first | (with_reducible exact G.refl _) | (with_reducible assumption) | (with_reducible refine G.alloc ?_ _) | (with_reducible refine G.drew ?_) | (with_reducible refine G.drewN ?_ _) | (refine G.setCell ?_ (by first | (simp <;> done) | (simp <;> omega)) _) | (with_reducible refine G.trans ?_ (by with_reducible assumption))))) (x := ({ par := q, child := -1, next := x.child, last := byt, first := x.first, code := k.nxt } : M.Nd)) hg5 hown5 hat5; have hSN9 := SN.gr (SN.up hSN1 (by repeat' (first | (with_reducible exact G.refl _) | (with_reducible assumption) | (with_reducible refine G.alloc ?_ _) | (with_reducible refine G.drew ?_) | (with_reducible refine G.drewN ?_ _) | (refine G.setCell ?_ (by first | (simp <;> done) | (simp <;> omega)) _) | (with_reducible refine G.trans ?_ (by with_reducible assumption))))) hg5 (by simp [Value.ownBlock]; omega) (by simp [Value.ownBlock]; omega) (by simp [Value.ownBlock]; omega)) | fail)
  (refine hK.out _ _ ?_ (fun hHeld => ?_); (focus ((try dsimp only); first | exact hSN9 | exact SN.st hSN9 _ (by omega) (by omega) | exact SN.up hSN1 (by repeat' (first | (with_reducible exact G.refl _) | (with_reducible assumption) | (with_reducible refine G.alloc ?_ _) | (with_reducible refine G.drew ?_) | (with_reducible refine G.drewN ?_ _) | (refine G.setCell ?_ (by first | (simp <;> done) | (simp <;> omega)) _) | (with_reducible refine G.trans ?_ (by with_reducible assumption)))))); clear hK K; (try simp only [Act.put, List.setIfInBounds_toArray, List.set_cons_zero, List.set_cons_succ]))
  (refine wpAnyH_take (i := 21) (v := ?_) (by simp only [List.getElem?_toArray, List.getElem?_cons_succ, List.getElem?_cons_zero]; rfl) (by kernel_rfl) (by kernel_rfl) (by kernel_rfl) (by exact fun _ _ _ h => h) (Or.inl ⟨by rfl, ?_⟩) (by assumption) ?_; rotate_left; (focus (intro wq hSw; (try dsimp only at hSw); go_simp; (try (with_reducible rfl)))); (try simp only [Act.put, List.setIfInBounds_toArray, List.set_cons_zero, List.set_cons_succ]))
  (refine wpAnyH_take (i := 22) (v := ?_) (by simp only [List.getElem?_toArray, List.getElem?_cons_succ, List.getElem?_cons_zero]; rfl) (by kernel_rfl) (by kernel_rfl) (by kernel_rfl) (by exact fun _ _ _ h => h) (Or.inl ⟨by rfl, ?_⟩) (by assumption) ?_; rotate_left; (focus (intro wq hSw; (try dsimp only at hSw); go_simp; (try (with_reducible rfl)))); (try simp only [Act.put, List.setIfInBounds_toArray, List.set_cons_zero, List.set_cons_succ]))
  refine wpAnyH_ready (rs := [23]) (by kernel_rfl) (by simp) ?_
  (refine AllReadyH.cons (by simp only [List.getElem?_toArray, List.getElem?_cons_succ, List.getElem?_cons_zero]; rfl) (fun K hK => ?_) ?_)
  go_simp
  (refine hK.out _ _ ?_ (fun hHeld => ?_); (focus ((try dsimp only); first | exact hSN9 | exact SN.st hSN9 _ (by omega) (by omega) | exact SN.up hSN1 (by repeat' (first | (with_reducible exact G.refl _) | (with_reducible assumption) | (with_reducible refine G.alloc ?_ _) | (with_reducible refine G.drew ?_) | (with_reducible refine G.drewN ?_ _) | (refine G.setCell ?_ (by first | (simp <;> done) | (simp <;> omega)) _) | (with_reducible refine G.trans ?_ (by with_reducible assumption)))))); clear hK K; (try simp only [Act.put, List.setIfInBounds_toArray, List.set_cons_zero, List.set_cons_succ]))
  refine wpAnyH_done (by kernel_rfl) ?_ _
  rotate_left
  exact AllReadyH.nil
  exact AllReadyH.nil
  exact AllReadyH.nil
  exact AllReadyH.nil
  (refine AllReadyH.cons (by simp only [List.getElem?_toArray, List.getElem?_cons_succ, List.getElem?_cons_zero]; rfl) (fun K hK => ?_) ?_)
  (first | (refine step_fn ?_ 100 #[.tmp 47] #[40] ?_ #[knV k A0 c0] ?_ cf_nextWord ?_; exact rfl; exact rfl; (simp only [List.map_toArray, List.map_cons, List.map_nil, Act.eval]; rfl); refine (v_nextWord2 k hk A0 c0 _).mono ?_; rintro e wN ⟨rfl, h5⟩; obtain ⟨hch5, hfh5⟩ := gcell h5; have hsN := h5.size; (try simp only [World.size_drew, World.size_alloc] at hsN); have hzN : g < wN.heap.size := (by omega); have hg6N := (hch5 g 6 (by simp; omega)).trans hg6c; have hp0N := (hch5 pb 0 (by simp; omega)).trans hp0; have hpbN : pb < wN.heap.size := (by omega); refine ⟨_, rfl, ?_⟩) | (refine step_app 103 103 Tryz.underlying103 node_info (by rfl) (by omega) (by rfl) (.tmp 35) (.tmp 50) (by rfl) (g + 1) _ N.length (cN N) (by rfl) (own_g hT1.on (by repeat' (first | (with_reducible exact G.refl _) | (with_reducible assumption) | (with_reducible refine G.alloc ?_ _) | (with_reducible refine G.drew ?_) | (with_reducible refine G.drewN ?_ _) | (refine G.setCell ?_ (by first | (simp <;> done) | (simp <;> omega)) _) | (with_reducible refine G.trans ?_ (by with_reducible assumption))))) _ 1 (cN [({ par := q, child := -1, next := x.child, last := byt, first := x.first, code := k.nxt } : M.Nd)]) (by rfl) (src_nd _ _ ({ par := q, child := -1, next := x.child, last := byt, first := x.first, code := k.nxt } : M.Nd) (heap_alloc_new _ _)) (by omega) (by simp; omega) ?_; intro v5 w5 hown5 hg5 hat5; obtain ⟨A5, c5, rfl⟩ := own_form hown5; obtain ⟨hg6, hfz6, s0, s1, s3, s4, s5, s6, s7, s8⟩ := TG.farc (hT1.up (by repeat' (first | (with_reducible exact G.refl _) | (with_reducible assumption) | (with_reducible refine G.alloc ?_ _) | (with_reducible refine G.drew ?_) | (with_reducible refine G.drewN ?_ _) | (refine G.setCell ?_ (by first | (simp <;> done) | (simp <;> omega)) _) | (with_reducible refine G.trans ?_ (by with_reducible assumption))))) hg5 (own_above hT1.on); have hT6 := TG.app6 (hT1.up (by repeat' (first | (with_reducible exact G.refl _) | (with_reducible assumption) | (with_reducible refine G.alloc ?_ _) | (with_reducible refine G.drew ?_) | (with_reducible refine G.drewN ?_ _) | (refine G.setCell ?_ (by first | (simp <;> done) | (simp <;> omega)) _) | (with_reducible refine G.trans ?_ (by with_reducible assumption))))) (x := ({ par := q, child := -1, next := x.child, last := byt, first := x.first, code := k.nxt } : M.Nd)) hg5 hown5 hat5; have hSN9 := SN.gr (SN.up hSN1 (by repeat' (first | (with_reducible exact G.refl _) | (with_reducible assumption) | (with_reducible refine G.alloc ?_ _) | (with_reducible refine G.drew ?_) | (with_reducible refine G.drewN ?_ _) | (refine G.setCell ?_ (by first | (simp <;> done) | (simp <;> omega)) _) | (with_reducible refine G.trans ?_ (by with_reducible assumption))))) hg5 (by simp [Value.ownBlock]; omega) (by simp [Value.ownBlock]; omega) (by simp [Value.ownBlock]; omega)) | fail)
  (refine hK.out _ _ ?_ (fun hHeld => ?_); (focus ((try dsimp only); first | exact hSN9 | exact SN.st hSN9 _ (by omega) (by omega) | exact SN.up hSN1 (by repeat' (first | (with_reducible exact G.refl _) | (with_reducible assumption) | (with_reducible refine G.alloc ?_ _) | (with_reducible refine G.drew ?_) | (with_reducible refine G.drewN ?_ _) | (refine G.setCell ?_ (by first | (simp <;> done) | (simp <;> omega)) _) | (with_reducible refine G.trans ?_ (by with_reducible assumption)))))); clear hK K; (try simp only [Act.put, List.setIfInBounds_toArray, List.set_cons_zero, List.set_cons_succ]))
  (refine wpAnyH_take (i := 18) (v := ?_) (by simp only [List.getElem?_toArray, List.getElem?_cons_succ, List.getElem?_cons_zero]; rfl) (by kernel_rfl) (by kernel_rfl) (by kernel_rfl) (by exact fun _ _ _ h => h) (Or.inl ⟨by rfl, ?_⟩) (by assumption) ?_; rotate_left; (focus (intro wq hSw; (try dsimp only at hSw); go_simp; (try (with_reducible rfl)))); (try simp only [Act.put, List.setIfInBounds_toArray, List.set_cons_zero, List.set_cons_succ]))
  refine wpAnyH_ready (rs := [4, 19]) (by kernel_rfl) (by simp) ?_
  (refine AllReadyH.cons (by simp only [List.getElem?_toArray, List.getElem?_cons_succ, List.getElem?_cons_zero]; rfl) (fun K hK => ?_) ?_)
  go_simp
  (refine hK.out _ _ ?_ (fun hHeld => ?_); (focus ((try dsimp only); first | exact hSN9 | exact SN.st hSN9 _ (by omega) (by omega) | exact SN.up hSN1 (by repeat' (first | (with_reducible exact G.refl _) | (with_reducible assumption) | (with_reducible refine G.alloc ?_ _) | (with_reducible refine G.drew ?_) | (with_reducible refine G.drewN ?_ _) | (refine G.setCell ?_ (by first | (simp <;> done) | (simp <;> omega)) _) | (with_reducible refine G.trans ?_ (by with_reducible assumption)))))); clear hK K; (try simp only [Act.put, List.setIfInBounds_toArray, List.set_cons_zero, List.set_cons_succ]))
  refine wpAnyH_ready (rs := [19]) (by kernel_rfl) (by simp) ?_
  (refine AllReadyH.cons (by simp only [List.getElem?_toArray, List.getElem?_cons_succ, List.getElem?_cons_zero]; rfl) (fun K hK => ?_) ?_)
  go_simp
  (refine hK.out _ _ ?_ (fun hHeld => ?_); (focus ((try dsimp only); first | exact hSN9 | exact SN.st hSN9 _ (by omega) (by omega) | exact SN.up hSN1 (by repeat' (first | (with_reducible exact G.refl _) | (with_reducible assumption) | (with_reducible refine G.alloc ?_ _) | (with_reducible refine G.drew ?_) | (with_reducible refine G.drewN ?_ _) | (refine G.setCell ?_ (by first | (simp <;> done) | (simp <;> omega)) _) | (with_reducible refine G.trans ?_ (by with_reducible assumption)))))); clear hK K; (try simp only [Act.put, List.setIfInBounds_toArray, List.set_cons_zero, List.set_cons_succ]))
  refine wpAnyH_ready (rs := [20]) (by kernel_rfl) (by simp) ?_
  (refine AllReadyH.cons (by simp only [List.getElem?_toArray, List.getElem?_cons_succ, List.getElem?_cons_zero]; rfl) (fun K hK => ?_) ?_)
  (first | (refine step_fn ?_ 100 #[.tmp 47] #[40] ?_ #[knV k A0 c0] ?_ cf_nextWord ?_; exact rfl; exact rfl; (simp only [List.map_toArray, List.map_cons, List.map_nil, Act.eval]; rfl); refine (v_nextWord2 k hk A0 c0 _).mono ?_; rintro e wN ⟨rfl, h5⟩; obtain ⟨hch5, hfh5⟩ := gcell h5; have hsN := h5.size; (try simp only [World.size_drew, World.size_alloc] at hsN); have hzN : g < wN.heap.size := (by omega); have hg6N := (hch5 g 6 (by simp; omega)).trans hg6c; have hp0N := (hch5 pb 0 (by simp; omega)).trans hp0; have hpbN : pb < wN.heap.size := (by omega); refine ⟨_, rfl, ?_⟩) | (refine step_app 103 103 Tryz.underlying103 node_info (by rfl) (by omega) (by rfl) (.tmp 35) (.tmp 50) (by rfl) (g + 1) _ N.length (cN N) (by rfl) (own_g hT1.on (by repeat' (first | (with_reducible exact G.refl _) | (with_reducible assumption) | (with_reducible refine G.alloc ?_ _) | (with_reducible refine G.drew ?_) | (with_reducible refine G.drewN ?_ _) | (refine G.setCell ?_ (by first | (simp <;> done) | (simp <;> omega)) _) | (with_reducible refine G.trans ?_ (by with_reducible assumption))))) _ 1 (cN [({ par := q, child := -1, next := x.child, last := byt, first := x.first, code := k.nxt } : M.Nd)]) (by rfl) (src_nd _ _ ({ par := q, child := -1, next := x.child, last := byt, first := x.first, code := k.nxt } : M.Nd) (heap_alloc_new _ _)) (by omega) (by simp; omega) ?_; intro v5 w5 hown5 hg5 hat5; obtain ⟨A5, c5, rfl⟩ := own_form hown5; obtain ⟨hg6, hfz6, s0, s1, s3, s4, s5, s6, s7, s8⟩ := TG.farc (hT1.up (by repeat' (first | (with_reducible exact G.refl _) | (with_reducible assumption) | (with_reducible refine G.alloc ?_ _) | (with_reducible refine G.drew ?_) | (with_reducible refine G.drewN ?_ _) | (refine G.setCell ?_ (by first | (simp <;> done) | (simp <;> omega)) _) | (with_reducible refine G.trans ?_ (by with_reducible assumption))))) hg5 (own_above hT1.on); have hT6 := TG.app6 (hT1.up (by repeat' (first | (with_reducible exact G.refl _) | (with_reducible assumption) | (with_reducible refine G.alloc ?_ _) | (with_reducible refine G.drew ?_) | (with_reducible refine G.drewN ?_ _) | (refine G.setCell ?_ (by first | (simp <;> done) | (simp <;> omega)) _) | (with_reducible refine G.trans ?_ (by with_reducible assumption))))) (x := ({ par := q, child := -1, next := x.child, last := byt, first := x.first, code := k.nxt } : M.Nd)) hg5 hown5 hat5; have hSN9 := SN.gr (SN.up hSN1 (by repeat' (first | (with_reducible exact G.refl _) | (with_reducible assumption) | (with_reducible refine G.alloc ?_ _) | (with_reducible refine G.drew ?_) | (with_reducible refine G.drewN ?_ _) | (refine G.setCell ?_ (by first | (simp <;> done) | (simp <;> omega)) _) | (with_reducible refine G.trans ?_ (by with_reducible assumption))))) hg5 (by simp [Value.ownBlock]; omega) (by simp [Value.ownBlock]; omega) (by simp [Value.ownBlock]; omega)) | fail)
  (refine hK.out _ _ ?_ (fun hHeld => ?_); (focus ((try dsimp only); first | exact hSN9 | exact SN.st hSN9 _ (by omega) (by omega) | exact SN.up hSN1 (by repeat' (first | (with_reducible exact G.refl _) | (with_reducible assumption) | (with_reducible refine G.alloc ?_ _) | (with_reducible refine G.drew ?_) | (with_reducible refine G.drewN ?_ _) | (refine G.setCell ?_ (by first | (simp <;> done) | (simp <;> omega)) _) | (with_reducible refine G.trans ?_ (by with_reducible assumption)))))); clear hK K; (try simp only [Act.put, List.setIfInBounds_toArray, List.set_cons_zero, List.set_cons_succ]))
  (refine wpAnyH_take (i := 21) (v := ?_) (by simp only [List.getElem?_toArray, List.getElem?_cons_succ, List.getElem?_cons_zero]; rfl) (by kernel_rfl) (by kernel_rfl) (by kernel_rfl) (by exact fun _ _ _ h => h) (Or.inl ⟨by rfl, ?_⟩) (by assumption) ?_; rotate_left; (focus (intro wq hSw; (try dsimp only at hSw); go_simp; (try (with_reducible rfl)))); (try simp only [Act.put, List.setIfInBounds_toArray, List.set_cons_zero, List.set_cons_succ]))
  (refine wpAnyH_take (i := 22) (v := ?_) (by simp only [List.getElem?_toArray, List.getElem?_cons_succ, List.getElem?_cons_zero]; rfl) (by kernel_rfl) (by kernel_rfl) (by kernel_rfl) (by exact fun _ _ _ h => h) (Or.inl ⟨by rfl, ?_⟩) (by assumption) ?_; rotate_left; (focus (intro wq hSw; (try dsimp only at hSw); go_simp; (try (with_reducible rfl)))); (try simp only [Act.put, List.setIfInBounds_toArray, List.set_cons_zero, List.set_cons_succ]))
  refine wpAnyH_ready (rs := [23]) (by kernel_rfl) (by simp) ?_
  (refine AllReadyH.cons (by simp only [List.getElem?_toArray, List.getElem?_cons_succ, List.getElem?_cons_zero]; rfl) (fun K hK => ?_) ?_)
  go_simp
  (refine hK.out _ _ ?_ (fun hHeld => ?_); (focus ((try dsimp only); first | exact hSN9 | exact SN.st hSN9 _ (by omega) (by omega) | exact SN.up hSN1 (by repeat' (first | (with_reducible exact G.refl _) | (with_reducible assumption) | (with_reducible refine G.alloc ?_ _) | (with_reducible refine G.drew ?_) | (with_reducible refine G.drewN ?_ _) | (refine G.setCell ?_ (by first | (simp <;> done) | (simp <;> omega)) _) | (with_reducible refine G.trans ?_ (by with_reducible assumption)))))); clear hK K; (try simp only [Act.put, List.setIfInBounds_toArray, List.set_cons_zero, List.set_cons_succ]))
  refine wpAnyH_done (by kernel_rfl) ?_ _
  rotate_left
  exact AllReadyH.nil
  exact AllReadyH.nil
  exact AllReadyH.nil
  (refine AllReadyH.cons (by simp only [List.getElem?_toArray, List.getElem?_cons_succ, List.getElem?_cons_zero]; rfl) (fun K hK => ?_) ?_)
  go_simp
  (refine hK.out _ _ ?_ (fun hHeld => ?_); (focus ((try dsimp only); first | exact hSN9 | exact SN.st hSN9 _ (by omega) (by omega) | exact SN.up hSN1 (by repeat' (first | (with_reducible exact G.refl _) | (with_reducible assumption) | (with_reducible refine G.alloc ?_ _) | (with_reducible refine G.drew ?_) | (with_reducible refine G.drewN ?_ _) | (refine G.setCell ?_ (by first | (simp <;> done) | (simp <;> omega)) _) | (with_reducible refine G.trans ?_ (by with_reducible assumption)))))); clear hK K; (try simp only [Act.put, List.setIfInBounds_toArray, List.set_cons_zero, List.set_cons_succ]))
  refine wpAnyH_ready (rs := [4]) (by kernel_rfl) (by simp) ?_
  (refine AllReadyH.cons (by simp only [List.getElem?_toArray, List.getElem?_cons_succ, List.getElem?_cons_zero]; rfl) (fun K hK => ?_) ?_)
  go_simp
  (refine hK.out _ _ ?_ (fun hHeld => ?_); (focus ((try dsimp only); first | exact hSN9 | exact SN.st hSN9 _ (by omega) (by omega) | exact SN.up hSN1 (by repeat' (first | (with_reducible exact G.refl _) | (with_reducible assumption) | (with_reducible refine G.alloc ?_ _) | (with_reducible refine G.drew ?_) | (with_reducible refine G.drewN ?_ _) | (refine G.setCell ?_ (by first | (simp <;> done) | (simp <;> omega)) _) | (with_reducible refine G.trans ?_ (by with_reducible assumption)))))); clear hK K; (try simp only [Act.put, List.setIfInBounds_toArray, List.set_cons_zero, List.set_cons_succ]))
  refine wpAnyH_ready (rs := [20]) (by kernel_rfl) (by simp) ?_
  (refine AllReadyH.cons (by simp only [List.getElem?_toArray, List.getElem?_cons_succ, List.getElem?_cons_zero]; rfl) (fun K hK => ?_) ?_)
  (first | (refine step_fn ?_ 100 #[.tmp 47] #[40] ?_ #[knV k A0 c0] ?_ cf_nextWord ?_; exact rfl; exact rfl; (simp only [List.map_toArray, List.map_cons, List.map_nil, Act.eval]; rfl); refine (v_nextWord2 k hk A0 c0 _).mono ?_; rintro e wN ⟨rfl, h5⟩; obtain ⟨hch5, hfh5⟩ := gcell h5; have hsN := h5.size; (try simp only [World.size_drew, World.size_alloc] at hsN); have hzN : g < wN.heap.size := (by omega); have hg6N := (hch5 g 6 (by simp; omega)).trans hg6c; have hp0N := (hch5 pb 0 (by simp; omega)).trans hp0; have hpbN : pb < wN.heap.size := (by omega); refine ⟨_, rfl, ?_⟩) | (refine step_app 103 103 Tryz.underlying103 node_info (by rfl) (by omega) (by rfl) (.tmp 35) (.tmp 50) (by rfl) (g + 1) _ N.length (cN N) (by rfl) (own_g hT1.on (by repeat' (first | (with_reducible exact G.refl _) | (with_reducible assumption) | (with_reducible refine G.alloc ?_ _) | (with_reducible refine G.drew ?_) | (with_reducible refine G.drewN ?_ _) | (refine G.setCell ?_ (by first | (simp <;> done) | (simp <;> omega)) _) | (with_reducible refine G.trans ?_ (by with_reducible assumption))))) _ 1 (cN [({ par := q, child := -1, next := x.child, last := byt, first := x.first, code := k.nxt } : M.Nd)]) (by rfl) (src_nd _ _ ({ par := q, child := -1, next := x.child, last := byt, first := x.first, code := k.nxt } : M.Nd) (heap_alloc_new _ _)) (by omega) (by simp; omega) ?_; intro v5 w5 hown5 hg5 hat5; obtain ⟨A5, c5, rfl⟩ := own_form hown5; obtain ⟨hg6, hfz6, s0, s1, s3, s4, s5, s6, s7, s8⟩ := TG.farc (hT1.up (by repeat' (first | (with_reducible exact G.refl _) | (with_reducible assumption) | (with_reducible refine G.alloc ?_ _) | (with_reducible refine G.drew ?_) | (with_reducible refine G.drewN ?_ _) | (refine G.setCell ?_ (by first | (simp <;> done) | (simp <;> omega)) _) | (with_reducible refine G.trans ?_ (by with_reducible assumption))))) hg5 (own_above hT1.on); have hT6 := TG.app6 (hT1.up (by repeat' (first | (with_reducible exact G.refl _) | (with_reducible assumption) | (with_reducible refine G.alloc ?_ _) | (with_reducible refine G.drew ?_) | (with_reducible refine G.drewN ?_ _) | (refine G.setCell ?_ (by first | (simp <;> done) | (simp <;> omega)) _) | (with_reducible refine G.trans ?_ (by with_reducible assumption))))) (x := ({ par := q, child := -1, next := x.child, last := byt, first := x.first, code := k.nxt } : M.Nd)) hg5 hown5 hat5; have hSN9 := SN.gr (SN.up hSN1 (by repeat' (first | (with_reducible exact G.refl _) | (with_reducible assumption) | (with_reducible refine G.alloc ?_ _) | (with_reducible refine G.drew ?_) | (with_reducible refine G.drewN ?_ _) | (refine G.setCell ?_ (by first | (simp <;> done) | (simp <;> omega)) _) | (with_reducible refine G.trans ?_ (by with_reducible assumption))))) hg5 (by simp [Value.ownBlock]; omega) (by simp [Value.ownBlock]; omega) (by simp [Value.ownBlock]; omega)) | fail)
  (refine hK.out _ _ ?_ (fun hHeld => ?_); (focus ((try dsimp only); first | exact hSN9 | exact SN.st hSN9 _ (by omega) (by omega) | exact SN.up hSN1 (by repeat' (first | (with_reducible exact G.refl _) | (with_reducible assumption) | (with_reducible refine G.alloc ?_ _) | (with_reducible refine G.drew ?_) | (with_reducible refine G.drewN ?_ _) | (refine G.setCell ?_ (by first | (simp <;> done) | (simp <;> omega)) _) | (with_reducible refine G.trans ?_ (by with_reducible assumption)))))); clear hK K; (try simp only [Act.put, List.setIfInBounds_toArray, List.set_cons_zero, List.set_cons_succ]))
  (refine wpAnyH_take (i := 21) (v := ?_) (by simp only [List.getElem?_toArray, List.getElem?_cons_succ, List.getElem?_cons_zero]; rfl) (by kernel_rfl) (by kernel_rfl) (by kernel_rfl) (by exact fun _ _ _ h => h) (Or.inl ⟨by rfl, ?_⟩) (by assumption) ?_; rotate_left; (focus (intro wq hSw; (try dsimp only at hSw); go_simp; (try (with_reducible rfl)))); (try simp only [Act.put, List.setIfInBounds_toArray, List.set_cons_zero, List.set_cons_succ]))
  (refine wpAnyH_take (i := 22) (v := ?_) (by simp only [List.getElem?_toArray, List.getElem?_cons_succ, List.getElem?_cons_zero]; rfl) (by kernel_rfl) (by kernel_rfl) (by kernel_rfl) (by exact fun _ _ _ h => h) (Or.inl ⟨by rfl, ?_⟩) (by assumption) ?_; rotate_left; (focus (intro wq hSw; (try dsimp only at hSw); go_simp; (try (with_reducible rfl)))); (try simp only [Act.put, List.setIfInBounds_toArray, List.set_cons_zero, List.set_cons_succ]))
  refine wpAnyH_ready (rs := [23]) (by kernel_rfl) (by simp) ?_
  (refine AllReadyH.cons (by simp only [List.getElem?_toArray, List.getElem?_cons_succ, List.getElem?_cons_zero]; rfl) (fun K hK => ?_) ?_)
  go_simp
  (refine hK.out _ _ ?_ (fun hHeld => ?_); (focus ((try dsimp only); first | exact hSN9 | exact SN.st hSN9 _ (by omega) (by omega) | exact SN.up hSN1 (by repeat' (first | (with_reducible exact G.refl _) | (with_reducible assumption) | (with_reducible refine G.alloc ?_ _) | (with_reducible refine G.drew ?_) | (with_reducible refine G.drewN ?_ _) | (refine G.setCell ?_ (by first | (simp <;> done) | (simp <;> omega)) _) | (with_reducible refine G.trans ?_ (by with_reducible assumption)))))); clear hK K; (try simp only [Act.put, List.setIfInBounds_toArray, List.set_cons_zero, List.set_cons_succ]))
  refine wpAnyH_done (by kernel_rfl) ?_ _
  rotate_left
  exact AllReadyH.nil
  exact AllReadyH.nil
  exact AllReadyH.nil
  exact AllReadyH.nil
  exact AllReadyH.nil
  all_goals
    obtain ⟨gb, hA5, hgb, -⟩ := (Rds.own hT6.on).at_ (by simp)
    subst hA5
    have hgbg : g + 1 ≤ gb := own_base hown5 rfl
    have hgbp : gb ≠ pb := by
      rcases hat5 with e | e
      · have : gb = gn := Option.some.inj e
        omega
      · have h9 := Option.some.inj e
        simp at h9
        omega
    have hgbp1 : (⟨gb, q * 6 + 1, none⟩ : Addr) ≠ ⟨pb, 0, none⟩ := fun e => hgbp (by injection e)
    have hgbp2 : (⟨gb, q * 6 + 1, none⟩ : Addr) ≠ ⟨pb, 1, none⟩ := fun e => hgbp (by injection e)
    have hNx6 : (N ++ [({ par := q, child := -1, next := x.child, last := byt, first := x.first, code := k.nxt } : M.Nd)])[q]? = some x := by rw [List.getElem?_append_left hqN]; exact HNX.out
    have hT7 := hT6.setChild hNx6 (N.length : Int)
    have hc7 : w5.cell? ⟨gb, q * 6 + 1, none⟩ = some (.int .i64 x.child) := by
      rw [hown5.cellAt (q * 6 + 1) (by omega), ← cN_append]
      exact (cN_get _ q x hNx6).2.1
    have hf7 := hown5.frozenAt (q * 6 + 1)
    have hp05 : w5.cell? ⟨pb, 0, none⟩ = some (.int .i64 pre) := by
      refine (GR.cell (show GR _ w5 _ from hg5) (g := pb) (by simp <;> omega) (by simp [Value.ownBlock]; omega) 0).trans ?_
      first | go_cell | (simp only [World.cell?_alloc_lt, *]; done)
    have hp15 : w5.cell? ⟨pb, 1, none⟩ = some (.int .i64 byt) := hSN9.2.2.2.2.2.2.2.2.2.2.2
    have hpb5 : pb < w5.heap.size := hSN9.2.2.1
    have hgp6 : (⟨g, 6, none⟩ : Addr) ≠ ⟨pb, 0, none⟩ := fun e => by injection e; omega
    have hgp61 : (⟨g, 6, none⟩ : Addr) ≠ ⟨pb, 1, none⟩ := fun e => by injection e; omega
    have hp07 : ((w5.setCell ⟨g, 6, none⟩ (.slice (some ⟨gb, 0, none⟩) (N.length + 1) c5)).setCell ⟨gb, q * 6 + 1, none⟩ (.int .i64 N.length)).cell? ⟨pb, 0, none⟩ = some (.int .i64 pre) := by
      rw [World.cell?_setCell_other _ _ _ _ hgbp1, World.cell?_setCell_other _ _ _ _ hgp6]; exact hp05
    have hp17 : ((w5.setCell ⟨g, 6, none⟩ (.slice (some ⟨gb, 0, none⟩) (N.length + 1) c5)).setCell ⟨gb, q * 6 + 1, none⟩ (.int .i64 N.length)).cell? ⟨pb, 1, none⟩ = some (.int .i64 byt) := by
      rw [World.cell?_setCell_other _ _ _ _ hgbp2, World.cell?_setCell_other _ _ _ _ hgp61]; exact hp15
    have hpb7 : pb < ((w5.setCell ⟨g, 6, none⟩ (.slice (some ⟨gb, 0, none⟩) (N.length + 1) c5)).setCell ⟨gb, q * 6 + 1, none⟩ (.int .i64 N.length)).heap.size := by simp; omega
    have hg7 : g < ((w5.setCell ⟨g, 6, none⟩ (.slice (some ⟨gb, 0, none⟩) (N.length + 1) c5)).setCell ⟨gb, q * 6 + 1, none⟩ (.int .i64 N.length)).heap.size := hT7.lt
    clear hSN9 hT6 hg5 hown5 hat5
    go_upto_region 8 with fail
    refine wp_gen (fun W8 => TG w W8 g k.s k.ps k.base k.last ((N ++ [({ par := q, child := -1, next := x.child, last := byt, first := x.first, code := k.nxt } : M.Nd)]).set q { x with child := (N.length : Int) }) I A0 c0 (some ⟨gb, 0, none⟩) c5 Ai ci ∧ W8.cell? ⟨pb, 0, none⟩ = some (.int .i64 pre) ∧ W8.cell? ⟨pb, 1, none⟩ = some (.int .i64 byt) ∧ pb < W8.heap.size) ⟨hT7, hp07, hp17, hpb7⟩ ?_
    rintro W8 ⟨hT8, hp08, hp18, hpb8⟩
    clear hT7 hp07 hp17 hpb7 hp05 hp15 hpb5 hg7
    obtain ⟨b0, b1, b2, b3, b4, b5, b6, b7⟩ := hT8.cells
    have hg8 := hT8.lt
    have hf8 := hT8.fz
    go_wp2_with (first | (at_builtin; refine app_int rfl (.tmp 66) (.tmp 68) rfl (g + 1) _ _ _ rfl (hT8.oi.alloc _) ⟨_, 0, none⟩ 1 1 [_] rfl rfl (cell_one_new _ _ _) (by simp [Value.oneCell']) (by omega) (by simp; omega) ?_; intro v3 w3 hownw3 hgw3 hatw3; obtain ⟨Ai3, ci3, rfl⟩ := own_form hownw3; obtain ⟨hg3, hfz3, r0, r1, r3, r4, r5, r6, r7, r8⟩ := TG.farc (hT8.up (by repeat' (first | (with_reducible exact G.refl _) | (with_reducible assumption) | (with_reducible refine G.alloc ?_ _) | (with_reducible refine G.drew ?_) | (with_reducible refine G.drewN ?_ _) | (refine G.setCell ?_ (by first | (simp <;> done) | (simp <;> omega)) _) | (with_reducible refine G.trans ?_ (by with_reducible assumption))))) hgw3 (own_above hT8.oi); have hT3 := TG.app7 (hT8.up (by repeat' (first | (with_reducible exact G.refl _) | (with_reducible assumption) | (with_reducible refine G.alloc ?_ _) | (with_reducible refine G.drew ?_) | (with_reducible refine G.drewN ?_ _) | (refine G.setCell ?_ (by first | (simp <;> done) | (simp <;> omega)) _) | (with_reducible refine G.trans ?_ (by with_reducible assumption))))) hgw3 hownw3 hatw3; have pc := fun o => GR.cell (show GR _ w3 _ from hgw3) (g := pb) (by simp; omega) hAip o; have hpc3 := hgw3.size) | fail)
    have hgne : (⟨g, 7, none⟩ : Addr) ≠ ⟨pb, 0, none⟩ := fun e => by injection e; omega
    have hgne1 : (⟨g, 7, none⟩ : Addr) ≠ ⟨pb, 1, none⟩ := fun e => by injection e; omega
    have p0 : (w3.setCell ⟨g, 7, none⟩ (.slice Ai3 (I.length + 1) ci3)).cell? ⟨pb, 0, none⟩ = some (.int .i64 pre) := by
      rw [World.cell?_setCell_other _ _ _ _ hgne, pc 0]; go_cell
    have p1 : (w3.setCell ⟨g, 7, none⟩ (.slice Ai3 (I.length + 1) ci3)).cell? ⟨pb, 1, none⟩ = some (.int .i64 byt) := by
      rw [World.cell?_setCell_other _ _ _ _ hgne1, pc 1]; go_cell
    have hpl : pb < (w3.setCell ⟨g, 7, none⟩ (.slice Ai3 (I.length + 1) ci3)).heap.size := by simp at hpc3 ⊢; omega
    refine wp_gen (fun W9 => TG w W9 g k.s k.ps k.base k.last ((N ++ [({ par := q, child := -1, next := x.child, last := byt, first := x.first, code := k.nxt } : M.Nd)]).set q { x with child := (N.length : Int) }) (I ++ [N.length]) A0 c0 (some ⟨gb, 0, none⟩) c5 Ai3 ci3 ∧ W9.cell? ⟨pb, 0, none⟩ = some (.int .i64 pre) ∧ W9.cell? ⟨pb, 1, none⟩ = some (.int .i64 byt) ∧ pb < W9.heap.size) ⟨hT3, p0, p1, hpl⟩ ?_
    rintro w4 ⟨hT4, p04, p14, hpl4⟩
    clear pc hpc3 p0 p1 hpl hT3 hT8 hgw3 hownw3 hatw3 hfz3 r0 r1 r3 r4 r5 r6 r7 r8 b0 b1 b2 b3 b4 b5 b6 b7 hp08 hp18 hpb8 hg8 hf8 hg3
    have hT4l := hT4.lt
    have hT4f := hT4.fz
    obtain ⟨t0, t1, t2, t3, t4, t5, t6, t7⟩ := hT4.cells
    refine wp_region_held_drew (S := fun w' => g ≤ w'.heap.size) (by kernel_rfl) (by (try dsimp only); first | (have h9 := hg5.size; simp at h9 ⊢; omega) | (simp only [World.size_drew, World.size_alloc]; omega)) (fun hHeld => ?_)
    (refine wpAnyH_take (i := 0) (v := ?_) (by simp only [List.getElem?_toArray, List.getElem?_cons_succ, List.getElem?_cons_zero]; rfl) (by kernel_rfl) (by kernel_rfl) (by kernel_rfl) (by exact fun _ _ _ h => h) (Or.inl ⟨by rfl, ?_⟩) (by assumption) ?_; rotate_left; (focus (intro wq hSw; (try dsimp only at hSw); go_simp; (try (with_reducible rfl)))); (try simp only [Act.put, List.setIfInBounds_toArray, List.set_cons_zero, List.set_cons_succ]))
    (refine wpAnyH_take (i := 1) (v := ?_) (by simp only [List.getElem?_toArray, List.getElem?_cons_succ, List.getElem?_cons_zero]; rfl) (by kernel_rfl) (by kernel_rfl) (by kernel_rfl) (by exact fun _ _ _ h => h) (Or.inl ⟨by rfl, ?_⟩) (by assumption) ?_; rotate_left; (focus (intro wq hSw; (try dsimp only at hSw); go_simp; (try (with_reducible rfl)))); (try simp only [Act.put, List.setIfInBounds_toArray, List.set_cons_zero, List.set_cons_succ]))
    (refine wpAnyH_take (i := 2) (v := ?_) (by simp only [List.getElem?_toArray, List.getElem?_cons_succ, List.getElem?_cons_zero]; rfl) (by kernel_rfl) (by kernel_rfl) (by kernel_rfl) (by exact fun _ _ _ h => h) (Or.inl ⟨by rfl, ?_⟩) (by assumption) ?_; rotate_left; (focus (intro wq hSw; (try dsimp only at hSw); go_simp; (try (with_reducible rfl)))); (try simp only [Act.put, List.setIfInBounds_toArray, List.set_cons_zero, List.set_cons_succ]))
    (refine wpAnyH_take (i := 3) (v := ?_) (by simp only [List.getElem?_toArray, List.getElem?_cons_succ, List.getElem?_cons_zero]; rfl) (by kernel_rfl) (by kernel_rfl) (by kernel_rfl) (by exact fun _ _ _ h => h) (Or.inl ⟨by rfl, ?_⟩) (by assumption) ?_; rotate_left; (focus (intro wq hSw; (try dsimp only at hSw); go_simp; (try (with_reducible rfl)))); (try simp only [Act.put, List.setIfInBounds_toArray, List.set_cons_zero, List.set_cons_succ]))
    (refine wpAnyH_take (i := 4) (v := ?_) (by simp only [List.getElem?_toArray, List.getElem?_cons_succ, List.getElem?_cons_zero]; rfl) (by kernel_rfl) (by kernel_rfl) (by kernel_rfl) (by exact fun _ _ _ h => h) (Or.inl ⟨by rfl, ?_⟩) (by assumption) ?_; rotate_left; (focus (intro wq hSw; (try dsimp only at hSw); go_simp; (try (with_reducible rfl)))); (try simp only [Act.put, List.setIfInBounds_toArray, List.set_cons_zero, List.set_cons_succ]))
    refine wpAnyH_ready (rs := [5, 6]) (by kernel_rfl) (by simp) ?_
    (refine AllReadyH.cons (by simp only [List.getElem?_toArray, List.getElem?_cons_succ, List.getElem?_cons_zero]; rfl) (fun K hK => ?_) ?_)
    go_simp
    (refine hK.out _ _ ?_ (fun hHeld => ?_); (focus ((try dsimp only); first | (have h9 := hg5.size; simp at h9 ⊢; omega) | (simp only [World.size_drew, World.size_alloc]; omega))); clear hK K; (try simp only [Act.put, List.setIfInBounds_toArray, List.set_cons_zero, List.set_cons_succ]))
    refine wpAnyH_ready (rs := [6]) (by kernel_rfl) (by simp) ?_
    (refine AllReadyH.cons (by simp only [List.getElem?_toArray, List.getElem?_cons_succ, List.getElem?_cons_zero]; rfl) (fun K hK => ?_) ?_)
    go_simp
    (refine hK.out _ _ ?_ (fun hHeld => ?_); (focus ((try dsimp only); first | (have h9 := hg5.size; simp at h9 ⊢; omega) | (simp only [World.size_drew, World.size_alloc]; omega))); clear hK K; (try simp only [Act.put, List.setIfInBounds_toArray, List.set_cons_zero, List.set_cons_succ]))
    refine wpAnyH_ready (rs := [7]) (by kernel_rfl) (by simp) ?_
    (refine AllReadyH.cons (by simp only [List.getElem?_toArray, List.getElem?_cons_succ, List.getElem?_cons_zero]; rfl) (fun K hK => ?_) ?_)
    go_simp
    (refine hK.out _ _ ?_ (fun hHeld => ?_); (focus ((try dsimp only); first | (have h9 := hg5.size; simp at h9 ⊢; omega) | (simp only [World.size_drew, World.size_alloc]; omega))); clear hK K; (try simp only [Act.put, List.setIfInBounds_toArray, List.set_cons_zero, List.set_cons_succ]))
    refine wpAnyH_ready (rs := [8]) (by kernel_rfl) (by simp) ?_
    (refine AllReadyH.cons (by simp only [List.getElem?_toArray, List.getElem?_cons_succ, List.getElem?_cons_zero]; rfl) (fun K hK => ?_) ?_)
    (first | (refine step_app 38 38 Tryz.underlying38 pair_info (by rfl) (by omega) (by rfl) (.tmp 77) (.tmp 79) (by rfl) (g + 1) _ k.ps.length (cP k.ps) (by rfl) (own_g hT4.op (by repeat' (first | (with_reducible exact G.refl _) | (with_reducible assumption) | (with_reducible refine G.alloc ?_ _) | (with_reducible refine G.drew ?_) | (with_reducible refine G.drewN ?_ _) | (refine G.setCell ?_ (by first | (simp <;> done) | (simp <;> omega)) _) | (with_reducible refine G.trans ?_ (by with_reducible assumption))))) _ 1 (cP [(pre, byt)]) (by rfl) (src_pr _ _ (pre, byt) (heap_alloc_new w4 _)) (by omega) (by simp; omega) ?_; intro v5 w6 hown5 hg5 hat5; obtain ⟨A5, c6, rfl⟩ := own_form hown5; obtain ⟨hg6, hfz6, s0, s1, s3, s4, s5, s6, s7, s8⟩ := TG.farc (hT4.up (by repeat' (first | (with_reducible exact G.refl _) | (with_reducible assumption) | (with_reducible refine G.alloc ?_ _) | (with_reducible refine G.drew ?_) | (with_reducible refine G.drewN ?_ _) | (refine G.setCell ?_ (by first | (simp <;> done) | (simp <;> omega)) _) | (with_reducible refine G.trans ?_ (by with_reducible assumption))))) hg5 (own_above hT4.op); have hT6 := TG.app3 (hT4.up (by repeat' (first | (with_reducible exact G.refl _) | (with_reducible assumption) | (with_reducible refine G.alloc ?_ _) | (with_reducible refine G.drew ?_) | (with_reducible refine G.drewN ?_ _) | (refine G.setCell ?_ (by first | (simp <;> done) | (simp <;> omega)) _) | (with_reducible refine G.trans ?_ (by with_reducible assumption))))) (p := (pre, byt)) hg5 hown5 hat5) | fail)
    (refine hK.out _ _ ?_ (fun hHeld => ?_); (focus ((try dsimp only); first | (have h9 := hg5.size; simp at h9 ⊢; omega) | (simp only [World.size_drew, World.size_alloc]; omega))); clear hK K; (try simp only [Act.put, List.setIfInBounds_toArray, List.set_cons_zero, List.set_cons_succ]))
    (refine wpAnyH_take (i := 9) (v := ?_) (by simp only [List.getElem?_toArray, List.getElem?_cons_succ, List.getElem?_cons_zero]; rfl) (by kernel_rfl) (by kernel_rfl) (by kernel_rfl) (by exact fun _ _ _ h => h) (Or.inl ⟨by rfl, ?_⟩) (by assumption) ?_; rotate_left; (focus (intro wq hSw; (try dsimp only at hSw); go_simp; (try (with_reducible rfl)))); (try simp only [Act.put, List.setIfInBounds_toArray, List.set_cons_zero, List.set_cons_succ]))
    (refine wpAnyH_take (i := 10) (v := ?_) (by simp only [List.getElem?_toArray, List.getElem?_cons_succ, List.getElem?_cons_zero]; rfl) (by kernel_rfl) (by kernel_rfl) (by kernel_rfl) (by exact fun _ _ _ h => h) (Or.inl ⟨by rfl, ?_⟩) (by assumption) ?_; rotate_left; (focus (intro wq hSw; (try dsimp only at hSw); go_simp; (try (with_reducible rfl)))); (try simp only [Act.put, List.setIfInBounds_toArray, List.set_cons_zero, List.set_cons_succ]))
    (refine wpAnyH_take (i := 11) (v := ?_) (by simp only [List.getElem?_toArray, List.getElem?_cons_succ, List.getElem?_cons_zero]; rfl) (by kernel_rfl) (by kernel_rfl) (by kernel_rfl) (by exact fun _ _ _ h => h) (Or.inl ⟨by rfl, ?_⟩) (by assumption) ?_; rotate_left; (focus (intro wq hSw; (try dsimp only at hSw); go_simp; (try (with_reducible rfl)))); (try simp only [Act.put, List.setIfInBounds_toArray, List.set_cons_zero, List.set_cons_succ]))
    refine wpAnyH_ready (rs := [12]) (by kernel_rfl) (by simp) ?_
    (refine AllReadyH.cons (by simp only [List.getElem?_toArray, List.getElem?_cons_succ, List.getElem?_cons_zero]; rfl) (fun K hK => ?_) ?_)
    go_simp
    (refine hK.out _ _ ?_ (fun hHeld => ?_); (focus ((try dsimp only); first | (have h9 := hg5.size; simp at h9 ⊢; omega) | (simp only [World.size_drew, World.size_alloc]; omega))); clear hK K; (try simp only [Act.put, List.setIfInBounds_toArray, List.set_cons_zero, List.set_cons_succ]))
    refine wpAnyH_done (by kernel_rfl) ?_ _
    rotate_left
    exact AllReadyH.nil
    exact AllReadyH.nil
    exact AllReadyH.nil
    exact AllReadyH.nil
    (refine AllReadyH.cons (by simp only [List.getElem?_toArray, List.getElem?_cons_succ, List.getElem?_cons_zero]; rfl) (fun K hK => ?_) ?_)
    go_simp
    (refine hK.out _ _ ?_ (fun hHeld => ?_); (focus ((try dsimp only); first | (have h9 := hg5.size; simp at h9 ⊢; omega) | (simp only [World.size_drew, World.size_alloc]; omega))); clear hK K; (try simp only [Act.put, List.setIfInBounds_toArray, List.set_cons_zero, List.set_cons_succ]))
    refine wpAnyH_ready (rs := [5, 7]) (by kernel_rfl) (by simp) ?_
    (refine AllReadyH.cons (by simp only [List.getElem?_toArray, List.getElem?_cons_succ, List.getElem?_cons_zero]; rfl) (fun K hK => ?_) ?_)
    go_simp
    (refine hK.out _ _ ?_ (fun hHeld => ?_); (focus ((try dsimp only); first | (have h9 := hg5.size; simp at h9 ⊢; omega) | (simp only [World.size_drew, World.size_alloc]; omega))); clear hK K; (try simp only [Act.put, List.setIfInBounds_toArray, List.set_cons_zero, List.set_cons_succ]))
    refine wpAnyH_ready (rs := [7]) (by kernel_rfl) (by simp) ?_
    (refine AllReadyH.cons (by simp only [List.getElem?_toArray, List.getElem?_cons_succ, List.getElem?_cons_zero]; rfl) (fun K hK => ?_) ?_)
    go_simp
    (refine hK.out _ _ ?_ (fun hHeld => ?_); (focus ((try dsimp only); first | (have h9 := hg5.size; simp at h9 ⊢; omega) | (simp only [World.size_drew, World.size_alloc]; omega))); clear hK K; (try simp only [Act.put, List.setIfInBounds_toArray, List.set_cons_zero, List.set_cons_succ]))
    refine wpAnyH_ready (rs := [8]) (by kernel_rfl) (by simp) ?_
    (refine AllReadyH.cons (by simp only [List.getElem?_toArray, List.getElem?_cons_succ, List.getElem?_cons_zero]; rfl) (fun K hK => ?_) ?_)
    (first | (refine step_app 38 38 Tryz.underlying38 pair_info (by rfl) (by omega) (by rfl) (.tmp 77) (.tmp 79) (by rfl) (g + 1) _ k.ps.length (cP k.ps) (by rfl) (own_g hT4.op (by repeat' (first | (with_reducible exact G.refl _) | (with_reducible assumption) | (with_reducible refine G.alloc ?_ _) | (with_reducible refine G.drew ?_) | (with_reducible refine G.drewN ?_ _) | (refine G.setCell ?_ (by first | (simp <;> done) | (simp <;> omega)) _) | (with_reducible refine G.trans ?_ (by with_reducible assumption))))) _ 1 (cP [(pre, byt)]) (by rfl) (src_pr _ _ (pre, byt) (heap_alloc_new w4 _)) (by omega) (by simp; omega) ?_; intro v5 w6 hown5 hg5 hat5; obtain ⟨A5, c6, rfl⟩ := own_form hown5; obtain ⟨hg6, hfz6, s0, s1, s3, s4, s5, s6, s7, s8⟩ := TG.farc (hT4.up (by repeat' (first | (with_reducible exact G.refl _) | (with_reducible assumption) | (with_reducible refine G.alloc ?_ _) | (with_reducible refine G.drew ?_) | (with_reducible refine G.drewN ?_ _) | (refine G.setCell ?_ (by first | (simp <;> done) | (simp <;> omega)) _) | (with_reducible refine G.trans ?_ (by with_reducible assumption))))) hg5 (own_above hT4.op); have hT6 := TG.app3 (hT4.up (by repeat' (first | (with_reducible exact G.refl _) | (with_reducible assumption) | (with_reducible refine G.alloc ?_ _) | (with_reducible refine G.drew ?_) | (with_reducible refine G.drewN ?_ _) | (refine G.setCell ?_ (by first | (simp <;> done) | (simp <;> omega)) _) | (with_reducible refine G.trans ?_ (by with_reducible assumption))))) (p := (pre, byt)) hg5 hown5 hat5) | fail)
    (refine hK.out _ _ ?_ (fun hHeld => ?_); (focus ((try dsimp only); first | (have h9 := hg5.size; simp at h9 ⊢; omega) | (simp only [World.size_drew, World.size_alloc]; omega))); clear hK K; (try simp only [Act.put, List.setIfInBounds_toArray, List.set_cons_zero, List.set_cons_succ]))
    (refine wpAnyH_take (i := 9) (v := ?_) (by simp only [List.getElem?_toArray, List.getElem?_cons_succ, List.getElem?_cons_zero]; rfl) (by kernel_rfl) (by kernel_rfl) (by kernel_rfl) (by exact fun _ _ _ h => h) (Or.inl ⟨by rfl, ?_⟩) (by assumption) ?_; rotate_left; (focus (intro wq hSw; (try dsimp only at hSw); go_simp; (try (with_reducible rfl)))); (try simp only [Act.put, List.setIfInBounds_toArray, List.set_cons_zero, List.set_cons_succ]))
    (refine wpAnyH_take (i := 10) (v := ?_) (by simp only [List.getElem?_toArray, List.getElem?_cons_succ, List.getElem?_cons_zero]; rfl) (by kernel_rfl) (by kernel_rfl) (by kernel_rfl) (by exact fun _ _ _ h => h) (Or.inl ⟨by rfl, ?_⟩) (by assumption) ?_; rotate_left; (focus (intro wq hSw; (try dsimp only at hSw); go_simp; (try (with_reducible rfl)))); (try simp only [Act.put, List.setIfInBounds_toArray, List.set_cons_zero, List.set_cons_succ]))
    (refine wpAnyH_take (i := 11) (v := ?_) (by simp only [List.getElem?_toArray, List.getElem?_cons_succ, List.getElem?_cons_zero]; rfl) (by kernel_rfl) (by kernel_rfl) (by kernel_rfl) (by exact fun _ _ _ h => h) (Or.inl ⟨by rfl, ?_⟩) (by assumption) ?_; rotate_left; (focus (intro wq hSw; (try dsimp only at hSw); go_simp; (try (with_reducible rfl)))); (try simp only [Act.put, List.setIfInBounds_toArray, List.set_cons_zero, List.set_cons_succ]))
    refine wpAnyH_ready (rs := [12]) (by kernel_rfl) (by simp) ?_
    (refine AllReadyH.cons (by simp only [List.getElem?_toArray, List.getElem?_cons_succ, List.getElem?_cons_zero]; rfl) (fun K hK => ?_) ?_)
    go_simp
    (refine hK.out _ _ ?_ (fun hHeld => ?_); (focus ((try dsimp only); first | (have h9 := hg5.size; simp at h9 ⊢; omega) | (simp only [World.size_drew, World.size_alloc]; omega))); clear hK K; (try simp only [Act.put, List.setIfInBounds_toArray, List.set_cons_zero, List.set_cons_succ]))
    refine wpAnyH_done (by kernel_rfl) ?_ _
    rotate_left
    exact AllReadyH.nil
    exact AllReadyH.nil
    exact AllReadyH.nil
    (refine AllReadyH.cons (by simp only [List.getElem?_toArray, List.getElem?_cons_succ, List.getElem?_cons_zero]; rfl) (fun K hK => ?_) ?_)
    go_simp
    (refine hK.out _ _ ?_ (fun hHeld => ?_); (focus ((try dsimp only); first | (have h9 := hg5.size; simp at h9 ⊢; omega) | (simp only [World.size_drew, World.size_alloc]; omega))); clear hK K; (try simp only [Act.put, List.setIfInBounds_toArray, List.set_cons_zero, List.set_cons_succ]))
    refine wpAnyH_ready (rs := [5]) (by kernel_rfl) (by simp) ?_
    (refine AllReadyH.cons (by simp only [List.getElem?_toArray, List.getElem?_cons_succ, List.getElem?_cons_zero]; rfl) (fun K hK => ?_) ?_)
    go_simp
    (refine hK.out _ _ ?_ (fun hHeld => ?_); (focus ((try dsimp only); first | (have h9 := hg5.size; simp at h9 ⊢; omega) | (simp only [World.size_drew, World.size_alloc]; omega))); clear hK K; (try simp only [Act.put, List.setIfInBounds_toArray, List.set_cons_zero, List.set_cons_succ]))
    refine wpAnyH_ready (rs := [8]) (by kernel_rfl) (by simp) ?_
    (refine AllReadyH.cons (by simp only [List.getElem?_toArray, List.getElem?_cons_succ, List.getElem?_cons_zero]; rfl) (fun K hK => ?_) ?_)
    (first | (refine step_app 38 38 Tryz.underlying38 pair_info (by rfl) (by omega) (by rfl) (.tmp 77) (.tmp 79) (by rfl) (g + 1) _ k.ps.length (cP k.ps) (by rfl) (own_g hT4.op (by repeat' (first | (with_reducible exact G.refl _) | (with_reducible assumption) | (with_reducible refine G.alloc ?_ _) | (with_reducible refine G.drew ?_) | (with_reducible refine G.drewN ?_ _) | (refine G.setCell ?_ (by first | (simp <;> done) | (simp <;> omega)) _) | (with_reducible refine G.trans ?_ (by with_reducible assumption))))) _ 1 (cP [(pre, byt)]) (by rfl) (src_pr _ _ (pre, byt) (heap_alloc_new w4 _)) (by omega) (by simp; omega) ?_; intro v5 w6 hown5 hg5 hat5; obtain ⟨A5, c6, rfl⟩ := own_form hown5; obtain ⟨hg6, hfz6, s0, s1, s3, s4, s5, s6, s7, s8⟩ := TG.farc (hT4.up (by repeat' (first | (with_reducible exact G.refl _) | (with_reducible assumption) | (with_reducible refine G.alloc ?_ _) | (with_reducible refine G.drew ?_) | (with_reducible refine G.drewN ?_ _) | (refine G.setCell ?_ (by first | (simp <;> done) | (simp <;> omega)) _) | (with_reducible refine G.trans ?_ (by with_reducible assumption))))) hg5 (own_above hT4.op); have hT6 := TG.app3 (hT4.up (by repeat' (first | (with_reducible exact G.refl _) | (with_reducible assumption) | (with_reducible refine G.alloc ?_ _) | (with_reducible refine G.drew ?_) | (with_reducible refine G.drewN ?_ _) | (refine G.setCell ?_ (by first | (simp <;> done) | (simp <;> omega)) _) | (with_reducible refine G.trans ?_ (by with_reducible assumption))))) (p := (pre, byt)) hg5 hown5 hat5) | fail)
    (refine hK.out _ _ ?_ (fun hHeld => ?_); (focus ((try dsimp only); first | (have h9 := hg5.size; simp at h9 ⊢; omega) | (simp only [World.size_drew, World.size_alloc]; omega))); clear hK K; (try simp only [Act.put, List.setIfInBounds_toArray, List.set_cons_zero, List.set_cons_succ]))
    (refine wpAnyH_take (i := 9) (v := ?_) (by simp only [List.getElem?_toArray, List.getElem?_cons_succ, List.getElem?_cons_zero]; rfl) (by kernel_rfl) (by kernel_rfl) (by kernel_rfl) (by exact fun _ _ _ h => h) (Or.inl ⟨by rfl, ?_⟩) (by assumption) ?_; rotate_left; (focus (intro wq hSw; (try dsimp only at hSw); go_simp; (try (with_reducible rfl)))); (try simp only [Act.put, List.setIfInBounds_toArray, List.set_cons_zero, List.set_cons_succ]))
    (refine wpAnyH_take (i := 10) (v := ?_) (by simp only [List.getElem?_toArray, List.getElem?_cons_succ, List.getElem?_cons_zero]; rfl) (by kernel_rfl) (by kernel_rfl) (by kernel_rfl) (by exact fun _ _ _ h => h) (Or.inl ⟨by rfl, ?_⟩) (by assumption) ?_; rotate_left; (focus (intro wq hSw; (try dsimp only at hSw); go_simp; (try (with_reducible rfl)))); (try simp only [Act.put, List.setIfInBounds_toArray, List.set_cons_zero, List.set_cons_succ]))
    (refine wpAnyH_take (i := 11) (v := ?_) (by simp only [List.getElem?_toArray, List.getElem?_cons_succ, List.getElem?_cons_zero]; rfl) (by kernel_rfl) (by kernel_rfl) (by kernel_rfl) (by exact fun _ _ _ h => h) (Or.inl ⟨by rfl, ?_⟩) (by assumption) ?_; rotate_left; (focus (intro wq hSw; (try dsimp only at hSw); go_simp; (try (with_reducible rfl)))); (try simp only [Act.put, List.setIfInBounds_toArray, List.set_cons_zero, List.set_cons_succ]))
    refine wpAnyH_ready (rs := [12]) (by kernel_rfl) (by simp) ?_
    (refine AllReadyH.cons (by simp only [List.getElem?_toArray, List.getElem?_cons_succ, List.getElem?_cons_zero]; rfl) (fun K hK => ?_) ?_)
    go_simp
    (refine hK.out _ _ ?_ (fun hHeld => ?_); (focus ((try dsimp only); first | (have h9 := hg5.size; simp at h9 ⊢; omega) | (simp only [World.size_drew, World.size_alloc]; omega))); clear hK K; (try simp only [Act.put, List.setIfInBounds_toArray, List.set_cons_zero, List.set_cons_succ]))
    refine wpAnyH_done (by kernel_rfl) ?_ _
    rotate_left
    exact AllReadyH.nil
    exact AllReadyH.nil
    exact AllReadyH.nil
    exact AllReadyH.nil
    exact AllReadyH.nil
    all_goals
      go_end0
      exact ⟨rfl, _, _, _, _, _, _, hT6⟩
end
end Go.Proofs.YtlaijbkonapdbaaGreat
