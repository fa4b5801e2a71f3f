/-
  FnExactAppendDataSaid is proved: for every input FnExactAppendData returns true, and each argument reads afterwards as it read before; no conditions. Part 8 of 25.
-/
import Derived.Test.YtlaijbkonapdbaaGreatA01
import Derived.Test.YtlaijbkonapdbaaGreatA07
import Derived.OneCell

set_option linter.all false

namespace Go.Proofs.YtlaijbkonapdbaaGreat
open Go.RowKit
attribute [local go_sem] grow_cell grow_frozen conv_one

section
variable (k : M.Kn) (hk : k.V) (A : Option Addr) (c : Nat) (hc : k.ps.length ≤ c) (w : World) (hr : Rds w 2 A k.ps.length (cP k.ps))
include hk hr hc

set_option maxHeartbeats 2000000 in
theorem v_l2Step (code : Nat) (hf : code = k.s.c ∨ k.follows code) : Calls Tryz.prog 136 #[knV k A c, .int .i64 code] w fun e w' => GivesK (k.step code) w e w' := by
  have hs := hk.s
  have HR := Lib.hid hr
  clear hr
  by_cases h : code = k.s.c
  · subst h
    go_enter Tryz.func136, Tryz.ntmps136
    go_wp2_with (first | (go_at_call 71; refine (v_l1Clear k.s hs _).mono ?_; rintro e w' ⟨rfl, h1⟩; obtain ⟨hch1, hfh1⟩ := gcell h1; try (have hzh1 : w.heap.size < w'.heap.size := by have := h1.size; (try simp at this); omega); try (have hyh1 : w.heap.size + 1 < w'.heap.size := by have := h1.size; (try simp at this); omega)) | (go_at_call 111; refine (v_l2Cleared k hk A c hc _ (HR.out.g (by repeat' (first | (with_reducible exact G.refl _) | (with_reducible assumption) | (with_reducible refine G.alloc ?_ _) | (with_reducible refine G.drew ?_) | (with_reducible refine G.drewN ?_ _) | (refine G.setCell ?_ (by first | (simp <;> done) | (simp <;> omega)) _) | (with_reducible refine G.trans ?_ (by with_reducible assumption)))))).mono ?_; rintro e w' ⟨⟨A1, c1, rfl, hR1⟩, h2⟩; obtain ⟨hch2, hfh2⟩ := gcell h2))
    refine bodyPost_ret (results_cells rfl _ _ (w.heap.size + 1) [.int .i64 k.s.ord, .int .i64 k.s.lit, .int .i64 k.s.most, .slice A1 (k.cleared.ps.length) c1, .int .i64 k.cleared.base, .int .i64 k.cleared.last] _ rfl (cells6 (by go_cell) (by go_cell) (by go_cell) (by go_cell) (by go_cell) (by go_cell)) Tryz.underlying40 rfl (by kernel_rfl)) rfl ?_
    rw [M.Kn.step_clear]
    refine ⟨⟨A1, c1, rfl, ?_⟩, (by repeat' (first | (with_reducible exact G.refl _) | (with_reducible assumption) | (with_reducible refine G.alloc ?_ _) | (with_reducible refine G.drew ?_) | (with_reducible refine G.drewN ?_ _) | (refine G.setCell ?_ (by first | (simp <;> done) | (simp <;> omega)) _) | (with_reducible refine G.trans ?_ (by with_reducible assumption))))⟩
    refine own_mono (base := w.heap.size + 2) ?_ (by omega)
    repeat' (first | with_reducible exact own_mono hR1 (by have := h1.size; simp at this; omega) | with_reducible refine ownsRow_setCell_below ?_ (by simp) _)
  · have hf2 : k.follows code := by rcases hf with h1 | h1; · exact absurd h1 h
                                    · exact h1
    have HF := Lib.hid hf2
    clear hf hf2
    go_enter Tryz.func136, Tryz.ntmps136
    go_wp2_with (first | (go_at_call 71; refine (v_l1Clear k.s hs _).mono ?_; rintro e w' ⟨rfl, h1⟩; obtain ⟨hch1, hfh1⟩ := gcell h1; try (have hzh1 : w.heap.size < w'.heap.size := by have := h1.size; (try simp at this); omega); try (have hyh1 : w.heap.size + 1 < w'.heap.size := by have := h1.size; (try simp at this); omega)) | (go_at_call 113; refine (v_l2After k hk A c hc _ (HR.out.g (by repeat' (first | (with_reducible exact G.refl _) | (with_reducible assumption) | (with_reducible refine G.alloc ?_ _) | (with_reducible refine G.drew ?_) | (with_reducible refine G.drewN ?_ _) | (refine G.setCell ?_ (by first | (simp <;> done) | (simp <;> omega)) _) | (with_reducible refine G.trans ?_ (by with_reducible assumption))))) code HF.out).mono ?_; rintro e w' ⟨⟨A1, c1, rfl, hR1⟩, h2⟩; obtain ⟨hch2, hfh2⟩ := gcell h2))
    refine bodyPost_ret (results_cells rfl _ _ (w.heap.size + 1) [.int .i64 k.s.ord, .int .i64 k.s.lit, .int .i64 k.s.most, .slice A1 ((k.after code).ps.length) c1, .int .i64 (k.after code).base, .int .i64 (k.after code).last] _ rfl (cells6 (by go_cell) (by go_cell) (by go_cell) (by go_cell) (by go_cell) (by go_cell)) Tryz.underlying40 rfl (by kernel_rfl)) rfl ?_
    rw [show k.step code = k.after code from M.Kn.step_after hk HF.out]
    refine ⟨⟨A1, c1, rfl, ?_⟩, (by repeat' (first | (with_reducible exact G.refl _) | (with_reducible assumption) | (with_reducible refine G.alloc ?_ _) | (with_reducible refine G.drew ?_) | (with_reducible refine G.drewN ?_ _) | (refine G.setCell ?_ (by first | (simp <;> done) | (simp <;> omega)) _) | (with_reducible refine G.trans ?_ (by with_reducible assumption))))⟩
    refine own_mono (base := w.heap.size + 2) ?_ (by omega)
    repeat' (first | with_reducible exact own_mono hR1 (by have := h1.size; simp at this; omega) | with_reducible refine ownsRow_setCell_below ?_ (by simp) _)
end
end Go.Proofs.YtlaijbkonapdbaaGreat

namespace Go.Proofs.YtlaijbkonapdbaaGreat
open Go.RowKit

/-! A variable that holds a Known and is written anew in a loop. -/
theorem set6_row {w : World} {b : Nat} {o0 o1 o2 o3 o4 o5 : Value} {t : TypeId} (h : w.heap[b]? = some (.cells #[o0, o1, o2, o3, o4, o5] t (0, 0))) (v0 v1 v2 v3 v4 v5 : Value) :
    ((((((w.setCell ⟨b, 0, none⟩ v0).setCell ⟨b, 1, none⟩ v1).setCell ⟨b, 2, none⟩ v2).setCell ⟨b, 3, none⟩ v3).setCell ⟨b, 4, none⟩ v4).setCell ⟨b, 5, none⟩ v5).heap[b]? = some (.cells #[v0, v1, v2, v3, v4, v5] t (0, 0)) := by
  have key : ∀ (w : World) (c : Array Value) (j : Nat) (v : Value), w.heap[b]? = some (.cells c t (0, 0)) → (w.setCell ⟨b, j, none⟩ v).heap[b]? = some (.cells (c.setIfInBounds j v) t (0, 0)) := by
    intro w c j v h
    have hlt := lt_of_block h
    have h' : w.heap[b] = .cells c t (0, 0) := by simpa [Array.getElem?_eq_getElem hlt] using h
    show (w.heap.modify b _)[b]? = _
    rw [Array.getElem?_eq_getElem (by simpa using hlt), Array.getElem_modify_self, h']
    rfl
  have := key _ _ 5 v5 (key _ _ 4 v4 (key _ _ 3 v3 (key _ _ 2 v2 (key _ _ 1 v1 (key _ _ 0 v0 h)))))
  simpa using this
theorem set_far {w : World} {b g : Nat} (hg : g ≠ b) (j : Nat) (v : Value) : (w.setCell ⟨b, j, none⟩ v).heap[g]? = w.heap[g]? := Below.heap_setCell w _ v g hg

structure KB (w : World) (b : Nat) (k : M.Kn) (A : Option Addr) (c : Nat) : Prop where
  row : w.heap[b]? = some (.cells #[.int .i64 k.s.ord, .int .i64 k.s.lit, .int .i64 k.s.most, .slice A k.ps.length c, .int .i64 k.base, .int .i64 k.last] 40 (0, 0))
  cap : k.ps.length ≤ c
  rd : Rds w 2 A k.ps.length (cP k.ps)
  off : ∀ a, A = some a → a.block ≠ b
  alt : ∀ a, A = some a → a.block < w.heap.size

theorem KB.lt {w : World} {b : Nat} {k : M.Kn} {A : Option Addr} {c : Nat} (h : KB w b k A c) : b < w.heap.size := lt_of_block h.row
theorem KB.box {w : World} {b : Nat} {k : M.Kn} {A : Option Addr} {c : Nat} (h : KB w b k A c) : KBox w b k A c :=
  ⟨h.lt, by rw [cell_of_row w b 0 _ _ _ h.row]; rfl, by rw [cell_of_row w b 1 _ _ _ h.row]; rfl, by rw [cell_of_row w b 2 _ _ _ h.row]; rfl, by rw [cell_of_row w b 3 _ _ _ h.row]; rfl, by rw [cell_of_row w b 4 _ _ _ h.row]; rfl, by rw [cell_of_row w b 5 _ _ _ h.row]; rfl⟩
theorem KB.fz {w : World} {b : Nat} {k : M.Kn} {A : Option Addr} {c : Nat} (h : KB w b k A c) (o : Nat) : w.frozen? ⟨b, o, none⟩ = false := frozen_of_row w b o _ _ h.row
theorem KB.g {w w' : World} {b : Nat} {k : M.Kn} {A : Option Addr} {c : Nat} (h : KB w b k A c) (hg : G w w') : KB w' b k A c :=
  ⟨(hg.heap h.lt).trans h.row, h.cap, h.rd.g hg, h.off, fun a ha => Nat.lt_of_lt_of_le (h.alt a ha) hg.size⟩
theorem Rds.gr {w w' : World} {size n : Nat} {A : Option Addr} {xs : List Value} {r : Option Nat} (h : Rds w size A n xs) (hg : w.grownBy w' r) (ho : ∀ a, A = some a → r ≠ some a.block) : Rds w' size A n xs :=
  ⟨h.1, fun hn => by
    obtain ⟨g, e, hl, hc⟩ := h.2 hn
    exact ⟨g, e, Nat.lt_of_lt_of_le hl hg.size, fun j u hu => (GR.cell (show GR w w' r from hg) hl (ho _ e) j).trans (hc j u hu)⟩⟩
theorem Rds.setCell {w : World} {size n b j : Nat} {A : Option Addr} {xs : List Value} {v : Value} (h : Rds w size A n xs) (ho : ∀ a, A = some a → a.block ≠ b) : Rds (w.setCell ⟨b, j, none⟩ v) size A n xs :=
  ⟨h.1, fun hn => by
    obtain ⟨g, e, hl, hc⟩ := h.2 hn
    exact ⟨g, e, by simpa using hl, fun j' u hu => (World.cell?_of_block (a := ⟨g, j', none⟩) (set_far (ho _ e) j v)).trans (hc j' u hu)⟩⟩
theorem KB.gr {w w' : World} {b : Nat} {k : M.Kn} {A : Option Addr} {c : Nat} {r : Option Nat} (h : KB w b k A c) (hg : w.grownBy w' r) (hb : r ≠ some b) (ho : ∀ a, A = some a → r ≠ some a.block) : KB w' b k A c :=
  ⟨(GR.far (show GR w w' r from hg) h.lt hb).trans h.row, h.cap, h.rd.gr hg ho, h.off, fun a ha => Nat.lt_of_lt_of_le (h.alt a ha) hg.size⟩
/-- what a call gave is stored -/
theorem KB.set {w : World} {b base c : Nat} {k : M.Kn} {A : Option Addr} {o0 o1 o2 o3 o4 o5 : Value} (h : w.heap[b]? = some (.cells #[o0, o1, o2, o3, o4, o5] 40 (0, 0)))
    (ho : w.ownsRow base 98 2 (.slice A k.ps.length c) k.ps.length (cP k.ps)) (hb : b < base) :
    KB ((((((w.setCell ⟨b, 0, none⟩ (.int .i64 k.s.ord)).setCell ⟨b, 1, none⟩ (.int .i64 k.s.lit)).setCell ⟨b, 2, none⟩ (.int .i64 k.s.most)).setCell ⟨b, 3, none⟩ (.slice A k.ps.length c)).setCell ⟨b, 4, none⟩ (.int .i64 k.base)).setCell ⟨b, 5, none⟩ (.int .i64 k.last)) b k A c ∧
    ∀ a, A = some a → base ≤ a.block := by
  have hA : ∀ a, A = some a → base ≤ a.block := fun a ha => own_base ho (by rw [ha]; rfl)
  have hA2 : ∀ a, A = some a → a.block ≠ b := fun a ha => by have := hA a ha; omega
  exact ⟨⟨set6_row h _ _ _ _ _ _, own_cap ho, (((((((Rds.own ho).setCell hA2).setCell hA2).setCell hA2).setCell hA2).setCell hA2).setCell hA2), hA2, fun a ha => by have h5 := own_lt ho (show (Value.slice A k.ps.length c).ownBlock = some a.block by rw [ha]; rfl); simpa using h5⟩, hA⟩
/-- the variable as it is first laid -/
theorem KB.new (w : World) (k : M.Kn) (A : Option Addr) (c : Nat) (hc : k.ps.length ≤ c) (hr : Rds w 2 A k.ps.length (cP k.ps)) (ho : ∀ a, A = some a → a.block < w.heap.size) :
    KB (w.alloc (.cells #[.int .i64 k.s.ord, .int .i64 k.s.lit, .int .i64 k.s.most, .slice A k.ps.length c, .int .i64 k.base, .int .i64 k.last] 40)) w.heap.size k A c :=
  ⟨heap_alloc_new w _, hc, hr.alloc _, fun a ha => by have := ho a ha; omega, fun a ha => by have := ho a ha; simp; omega⟩
theorem own_lit (w : World) (e : TypeId) (size base b n : Nat) (xs : List Value) (hl : xs.length = n * size) (hn : n ≤ 100000000) (h : b = w.heap.size) (hb : base ≤ w.heap.size) :
    (w.alloc (.cells xs.toArray e)).ownsRow base e size (.slice (some ⟨b, 0, none⟩) n n) n xs := by
  subst h
  exact ⟨hl, .inr ⟨w.heap.size, n, xs.toArray, rfl, hb, heap_alloc_new w _, Nat.le_refl _, by simp only [maxLen]; omega, by simpa using hl, by rw [← hl]; simp⟩⟩
/-- a row of one's own stays where a variable is written -/
theorem own_set6 {w : World} {b base n size : Nat} {e : TypeId} {v : Value} {xs : List Value} {v0 v1 v2 v3 v4 v5 : Value} (h : w.ownsRow base e size v n xs) (hb : v.ownBlock ≠ some b) :
    ((((((w.setCell ⟨b, 0, none⟩ v0).setCell ⟨b, 1, none⟩ v1).setCell ⟨b, 2, none⟩ v2).setCell ⟨b, 3, none⟩ v3).setCell ⟨b, 4, none⟩ v4).setCell ⟨b, 5, none⟩ v5).ownsRow base e size v n xs :=
  ownsRow_setCell_other (ownsRow_setCell_other (ownsRow_setCell_other (ownsRow_setCell_other (ownsRow_setCell_other (ownsRow_setCell_other h hb _) hb _) hb _) hb _) hb _) hb _
end Go.Proofs.YtlaijbkonapdbaaGreat

namespace Go.Proofs.YtlaijbkonapdbaaGreat
open Go.RowKit
attribute [local go_sem] grow_cell grow_frozen conv_one

section
variable (k : M.Kn) (hk : k.V) (A : Option Addr) (c : Nat) (hc : k.ps.length ≤ c) (w : World) (hr : Rds w 2 A k.ps.length (cP k.ps)) (hA : ∀ a, A = some a → a.block < w.heap.size)
include hk hr hc hA

set_option maxHeartbeats 4000000 in
theorem v_l2Greedy (d : M.Bytes) (hd : M.Kn.fits k.s.c d) (hdl : d.length ≤ 1000) (b : ByteArray) (hb : bs b = d) :
    Calls Tryz.prog 97 #[knV k A c, .string b] w fun e w' => (∃ A' c', e = .returned (.slice A' (M.Kn.greedyCodes k d).length c') ∧ w'.ownsRow w.heap.size 3 1 (.slice A' (M.Kn.greedyCodes k d).length c') (M.Kn.greedyCodes k d).length (cI (M.Kn.greedyCodes k d))) ∧ G w w' := by
  have hs := hk.s
  have hc256 := hs.c256
  have HB := Lib.hid hb
  have hbl : b.size ≤ 1000 := by rw [bs_size, hb]; exact hdl
  have HD := Lib.hid hd
  have hK0 := KB.new w k A c hc hr (fun a ha => by have := hA a ha; omega)
  have hoff0 : ∀ a, A = some a → a.block < w.heap.size := hA
  have HR := Lib.hid hr
  have HA := Lib.hid hA
  clear hb hdl hd hr hA
  go_enter Tryz.func97, Tryz.ntmps97
  go_wp2_with (first | (go_at_call 71; refine (v_l1Clear k.s hs _).mono ?_; rintro e w' ⟨rfl, h1⟩; obtain ⟨hch1, hfh1⟩ := gcell h1; try (have hzh1 : w.heap.size < w'.heap.size := by have := h1.size; (try simp at this); omega); try (have hyh1 : w.heap.size + 1 < w'.heap.size := by have := h1.size; (try simp at this); omega)) | (go_at_call 111; refine (v_l2Cleared k hk A c hc _ (HR.out.g (by repeat' (first | (with_reducible exact G.refl _) | (with_reducible assumption) | (with_reducible refine G.alloc ?_ _) | (with_reducible refine G.drew ?_) | (with_reducible refine G.drewN ?_ _) | (refine G.setCell ?_ (by first | (simp <;> done) | (simp <;> omega)) _) | (with_reducible refine G.trans ?_ (by with_reducible assumption)))))).mono ?_; rintro e w' ⟨⟨A1, c1, rfl, hR1⟩, h2⟩; have hK1 := hK0.g (w' := w') (by repeat' (first | (with_reducible exact G.refl _) | (with_reducible assumption) | (with_reducible refine G.alloc ?_ _) | (with_reducible refine G.drew ?_) | (with_reducible refine G.drewN ?_ _) | (refine G.setCell ?_ (by first | (simp <;> done) | (simp <;> omega)) _) | (with_reducible refine G.trans ?_ (by with_reducible assumption)))); have hfz := hK1.fz; obtain ⟨hch2, hfh2⟩ := gcell h2))
  rename World => wB
  have hKs := KB.set (k := k.cleared) hK1.row hR1 (by have := h1.size; simp at this ⊢; omega)
  go_loopw [1, 5] (fun x v wr => ∃ (kk : M.Kn) (Ak : Option Addr) (ck : Nat) (o : List Nat) (dd : M.Bytes) (bd : ByteArray) (g5 : Nat), x = .string bd ∧ Hid (bs bd = dd) ∧ bd.size ≤ 1000 ∧ KB wr w.heap.size kk Ak ck ∧ Hid (kk.V) ∧ Hid (kk.s = k.s) ∧ Hid (M.Kn.fits kk.s.c dd)
      ∧ wr.ownsRow (w.heap.size + 1) 3 1 v o.length (cI o) ∧ v.ownBlock = some g5 ∧ (∀ a, Ak = some a → a.block ≠ g5) ∧ G w wr ∧ Hid (M.Kn.greedyCodes k d = o ++ M.Kn.greedy kk dd ++ [k.s.e]) ∧ o.length + 2 * bd.size ≤ 2 * b.size + 1) (fun x _ _ => match x with | .string s => s.size | _ => 0)
  case atStart =>
    refine ⟨k.cleared, A1, c1, [k.s.c], d, b, _, rfl, HB.out, hbl, hKs.1, hk.cleared, rfl, HD.out, own_set6 (own_g (own_lit _ 3 1 (w.heap.size + 1) _ 1 [.int .i64 k.s.c] rfl (by omega) rfl (by have := h1.size; simp at this; omega)) h2) ?_, rfl, ?_, (by repeat' (first | (with_reducible exact G.refl _) | (with_reducible assumption) | (with_reducible refine G.alloc ?_ _) | (with_reducible refine G.drew ?_) | (with_reducible refine G.drewN ?_ _) | (refine G.setCell ?_ (by first | (simp <;> done) | (simp <;> omega)) _) | (with_reducible refine G.trans ?_ (by with_reducible assumption)))), ?_, by simp; omega⟩
    · intro h; have h3 := Option.some.inj h; have h4 := h1.size; simp at h4; dsimp only at h3; omega
    · intro a ha e; have h3 := hKs.2 a ha; rw [World.size_alloc] at h3; rw [e] at h3; simp only [] at h3; omega
    · show _ = _; rfl
  case round =>
    obtain ⟨kk, Ak, ck, o, dd, bd, g5, rfl, HBD, hbd, hKB, HKV, HKS, HFT, hown, hob, hne5, hGr, HGC, hlen⟩ := hrel
    obtain ⟨k9, k0, k1, k2, k3, k4, k5⟩ := hKB.box
    have HS2 := Lib.hid HKV.out.s
    by_cases hdd : dd = []
    · have hq1 : bd.toList.isEmpty = true := by rw [ByteArray.toList_eq, show bd.data.toList = dd from HBD.out, hdd]; rfl
      have HGR : Hid (M.Kn.greedyCodes k d = o ++ [kk.s.e]) := by show _ = _; rw [HGC.out, hdd, M.Kn.greedy_nil, HKS.out]; simp
      clear hdd
      go_wp2_with (first | (go_at_call 93; refine (v_l1End kk.s HS2.out _).mono ?_; rintro e w' ⟨rfl, h10⟩; obtain ⟨hch10, hfh10⟩ := gcell h10; have hs10 := h10.size) | (at_builtin; refine app_int rfl (.tmp 59) (.tmp 63) rfl (w.heap.size + 1) _ _ _ rfl ((own_g hown h10).alloc _) ⟨_, 0, none⟩ 1 1 [_] rfl rfl (cell_one_new _ _ _) (by simp [Value.oneCell']) (by omega) (by simp; omega) ?_; intro v2 w2 hownw2 hgw2 hatw2; have hGb := G.grown (a := w) ((hGr.trans h10).alloc _) hgw2 (fun g h => by have := own_base hown h; omega)))
      obtain ⟨A7, c7, rfl⟩ := own_form hownw2
      go_ret
      have e1 : (M.Kn.greedyCodes k d).length = o.length + 1 := by rw [HGR.out]; simp
      refine ⟨⟨A7, c7, by rw [e1]; rfl, ?_⟩, hGb⟩
      rw [e1, HGR.out, cI_snoc]
      exact own_mono hownw2 (by omega)
    · have hq1 : bd.toList.isEmpty = false := by rw [ByteArray.toList_eq, show bd.data.toList = dd from HBD.out]; simpa using hdd
      have hbd1 : 1 ≤ dd.length := by cases dd with
        | nil => exact absurd rfl hdd
        | cons => simp
      have hbd2 : dd.length ≤ 100000 := by rw [← HBD.out, ← bs_size]; omega
      have HF := M.Kn.longF_spec HKV.out hdd (HFT.out.head hdd)
      obtain ⟨bw, hbw⟩ : ∃ bw, bs bw = kk.longW dd := ⟨⟨(kk.longW dd).toArray⟩, rfl⟩
      have HLW : Hid (S (kk.longW dd) = .string bw) := (bs_eq hbw).symm
      have HBW := Lib.hid hbw
      have HFF := Lib.hid HF
      have hfz := hKB.fz
      have hbw1 : bw.size ≤ bd.size := by rw [bs_size, bs_size, hbw, HBD.out]; exact HF.2.2.2.2.1
      have hbw0 : 1 ≤ bw.size := by rw [bs_size, hbw]; exact HF.2.2.2.1
      have HDD := Lib.hid hdd
      have HD1 := Lib.hid hbd1
      have HD2 := Lib.hid hbd2
      clear hbw hdd HF hbd1 hbd2
      go_wp2_with (first | (go_at_call 112; refine (v_l2Longest kk HKV.out Ak ck _ (hKB.rd.g (by repeat' (first | (with_reducible exact G.refl _) | (with_reducible assumption) | (with_reducible refine G.alloc ?_ _) | (with_reducible refine G.drew ?_) | (with_reducible refine G.drewN ?_ _) | (refine G.setCell ?_ (by first | (simp <;> done) | (simp <;> omega)) _) | (with_reducible refine G.trans ?_ (by with_reducible assumption))))) dd HD1.out HD2.out bd HBD.out).mono ?_; rintro e w' ⟨rfl, h1⟩; obtain ⟨hch1, hfh1⟩ := gcell h1; have hs1 := h1.size; rw [HLW.out]) | (go_at_call 114; refine (v_l2Find kk HKV.out Ak ck _ (hKB.rd.g (by repeat' (first | (with_reducible exact G.refl _) | (with_reducible assumption) | (with_reducible refine G.alloc ?_ _) | (with_reducible refine G.drew ?_) | (with_reducible refine G.drewN ?_ _) | (refine G.setCell ?_ (by first | (simp <;> done) | (simp <;> omega)) _) | (with_reducible refine G.trans ?_ (by with_reducible assumption))))) (kk.longW dd) HFF.out.2.2.2.1 (by have := HFF.out.2.2.2.2.1; have := HD2.out; omega) (kk.longF dd) HFF.out.1 bw HBW.out).mono ?_; rintro e w' ⟨rfl, h2⟩; obtain ⟨hch2, hfh2⟩ := gcell h2; have hs2 := h2.size) | (at_builtin; refine app_int rfl (.tmp 22) (.tmp 24) rfl (w.heap.size + 1) _ _ _ rfl ((own_g (own_g hown h1) h2).alloc _) ⟨_, 0, none⟩ 1 1 [_] rfl rfl (cell_one_new _ _ _) (by simp [Value.oneCell']) (by omega) (by simp; omega) ?_; intro v1 w1 hownw1 hgw1 hatw1; have hKB2 := (hKB.g (w' := _) (((h1.trans h2)).alloc _)).gr hgw1 (by intro h; have := own_base hown h; omega) (fun a ha h => hne5 a ha (Option.some.inj (hob.symm.trans h)).symm); have hGa := G.grown (a := w) ((hGr.trans (h1.trans h2)).alloc _) hgw1 (fun g h => by have := own_base hown h; omega); obtain ⟨j9, j0, j1, j2, j3, j4, j5⟩ := hKB2.box; have hfz2 := hKB2.fz) | (go_at_call 113; refine (v_l2After kk HKV.out Ak ck hKB.cap _ hKB2.rd (kk.longF dd) HFF.out.2.1).mono ?_; rintro e w' ⟨⟨A3, c3, rfl, hR3⟩, h3⟩; have hK3 := hKB2.g h3; have hfz3 := hK3.fz; obtain ⟨hch3, hfh3⟩ := gcell h3))
      have hlA : w1.heap.size ≤ w1.heap.size := Nat.le_refl _
      rename World => w3
      obtain ⟨hKs3, hA3⟩ := KB.set (k := kk.after (kk.longF dd)) hK3.row hR3 (by omega)
      have hV4 := HKV.out.after HFF.out.2.1
      have HS4 : Hid ((kk.after (kk.longF dd)).s = kk.s) := rfl
      have hcut : kk.cut dd = bw.size := by rw [bs_size, HBW.out]; exact M.Kn.cut_eq HKV.out HDD.out HFT.out
      have hgre := M.Kn.greedy_cons kk dd HDD.out
      rw [hcut] at hgre
      obtain ⟨bd2, hbd2⟩ : ∃ x, bd.extract bw.size bd.size = x := ⟨_, rfl⟩
      have hbs2 : bs bd2 = dd.drop bw.size := by rw [← hbd2, bs_extract, HBD.out]; apply List.take_of_length_le; rw [List.length_drop, ← HBD.out, ← bs_size]; omega
      have hbz2 : bd2.size = bd.size - bw.size := by rw [bs_size, hbs2, List.length_drop, ← HBD.out, ← bs_size]
      rw [hbd2]
      have HBS2 := Lib.hid hbs2
      have hbz3 : bd2.size ≤ bd.size - bw.size := by omega
      clear hbd2 hcut hbz2
      obtain ⟨g6, hg6⟩ : ∃ g6, v1.ownBlock = some g6 := by
        rcases hatw1 with h | h
        · exact ⟨g5, h.trans hob⟩
        · exact ⟨_, h⟩
      have hg6lt := own_lt hownw1 hg6
      have hneb : v1.ownBlock ≠ some w.heap.size := fun h => by have := own_base hownw1 h; omega
      refine wp_gen (fun W => KB W w.heap.size (kk.after (kk.longF dd)) A3 c3 ∧ W.ownsRow (w.heap.size + 1) 3 1 v1 (o.length + 1) (cI o ++ [.int .i64 (kk.longF dd)]) ∧ G w W) ⟨hKs3, own_set6 (own_g hownw1 h3) hneb, (by repeat' (first | (with_reducible exact G.refl _) | (with_reducible assumption) | (with_reducible refine G.alloc ?_ _) | (with_reducible refine G.drew ?_) | (with_reducible refine G.drewN ?_ _) | (refine G.setCell ?_ (by first | (simp <;> done) | (simp <;> omega)) _) | (with_reducible refine G.trans ?_ (by with_reducible assumption))))⟩ ?_
      rintro W9 ⟨hKB9, hown9, hG9⟩
      have HGRE := Lib.hid hgre
      have HFT2 : Hid (M.Kn.fits (kk.after (kk.longF dd)).s.c (dd.drop bw.size)) := HFT.out.drop _
      clear hKs3 hgre hKB hKB2 hK3 k0 k1 k2 k3 k4 k5 j0 j1 j2 j3 j4 j5
      generalize hk4 : kk.after (kk.longF dd) = k4 at *
      obtain ⟨j9, j0, j1, j2, j3, j4, j5⟩ := hKB9.box
      have hfz9 := hKB9.fz
      have HK4 := Lib.hid hk4
      have HN4 : Hid (M.Kn.full k4 = decide (k4.s.l < k4.nxt ∧ k4.base < k4.ps.length)) := rfl
      clear hk4
      by_cases hx : dd.drop bw.size = []
      · have hq2 : bd2.toList.isEmpty = true := by rw [ByteArray.toList_eq, show bd2.data.toList = _ from hbs2, hx]; rfl
        have HGR : Hid (kk.greedy dd = kk.longF dd :: k4.greedy (dd.drop bw.size)) := by show _ = _; rw [HGRE.out, if_neg (fun h => h.1 hx)]
        clear hx
        refine wp_region_quiet_below (by kernel_rfl) (by kernel_rfl) ?_
        repeat (first | go_big_quiet_step (fail) | quiet_step (fail))
        refine wpQuiet_nil ?_
        intro w' hw'
        have h9 := G.of_regrown hw'
        clear hw'
        obtain ⟨hch9, hfh9⟩ := gcell h9
        · go_wp2
          go_roundw
          case rel => exact ⟨k4, A3, c3, o ++ [kk.longF dd], dd.drop bw.size, bd2, g6, rfl, hbs2, by omega, hKB9.g h9, hV4, (by show _ = _; rw [HS4.out]; exact HKS.out), HFT2.out, (by rw [cI_snoc, List.length_append]; exact own_g hown9 h9), hg6, (fun a ha => by have := hA3 a ha; omega), (by repeat' (first | (with_reducible exact G.refl _) | (with_reducible assumption) | (with_reducible refine G.alloc ?_ _) | (with_reducible refine G.drew ?_) | (with_reducible refine G.drewN ?_ _) | (refine G.setCell ?_ (by first | (simp <;> done) | (simp <;> omega)) _) | (with_reducible refine G.trans ?_ (by with_reducible assumption)))), (by show _ = _; rw [HGC.out, HGR.out]; simp), by simp; omega⟩
          case measure => simp; omega
      · have hq2 : bd2.toList.isEmpty = false := by rw [ByteArray.toList_eq, show bd2.data.toList = _ from hbs2]; simpa using hx
        have HX := Lib.hid hx
        clear hx
        by_cases hy : k4.s.l < k4.nxt
        · by_cases hz : k4.base < k4.ps.length
          · have HGR : Hid (kk.greedy dd = kk.longF dd :: kk.s.c :: k4.cleared.greedy (dd.drop bw.size)) := by show _ = _; rw [HGRE.out, if_pos ⟨HX.out, by rw [HN4.out]; simp [hy, hz]⟩]
            refine wp_region_quiet_below (by kernel_rfl) (by kernel_rfl) ?_
            repeat (first | go_big_quiet_step ((first | (go_at_call 119; exact qcall (v_l2Next k4 hV4 A3 c3 _)) | (go_at_call 92; exact qcall (v_l1Last k4.s hV4.s _)))) | quiet_step ((first | (go_at_call 119; exact qcall (v_l2Next k4 hV4 A3 c3 _)) | (go_at_call 92; exact qcall (v_l1Last k4.s hV4.s _)))))
            refine wpQuiet_nil ?_
            intro w' hw'
            have h9 := G.of_regrown hw'
            clear hw'
            obtain ⟨hch9, hfh9⟩ := gcell h9
            have hs9 := h9.size
            have hcA := hKB9.cap
            go_wp2_with (first | (go_at_call 71; refine (v_l1Clear k4.s hV4.s _).mono ?_; rintro e w' ⟨rfl, h10⟩; obtain ⟨hch10, hfh10⟩ := gcell h10; have hs10 := h10.size) | (at_builtin; refine app_int rfl (.tmp 51) (.tmp 55) rfl (w.heap.size + 1) _ _ _ rfl ((own_g (own_g hown9 h9) h10).alloc _) ⟨_, 0, none⟩ 1 1 [_] rfl rfl (cell_one_new _ _ _) (by simp [Value.oneCell']) (by omega) (by simp; omega) ?_; intro v2 w2 hownw2 hgw2 hatw2; have hKB10 := (hKB9.g (w' := _) (((h9.trans h10)).alloc _)).gr hgw2 (by intro h; have := own_base hown9 h; omega) (fun a ha h => by have h5 := hA3 a ha; have h6 := Option.some.inj (hg6.symm.trans h); omega); have hGb := G.grown (a := w) ((hG9.trans (h9.trans h10)).alloc _) hgw2 (fun g h => by have := own_base hown9 h; omega); obtain ⟨i9, i0, i1, i2, i3, i4, i5⟩ := hKB10.box; have hfz10 := hKB10.fz) | (go_at_call 111; refine (v_l2Cleared k4 hV4 A3 c3 hcA _ hKB10.rd).mono ?_; rintro e w' ⟨⟨A5, c5, rfl, hR5⟩, h11⟩; have hK11 := hKB10.g h11; have hfz11 := hK11.fz; obtain ⟨hch11, hfh11⟩ := gcell h11))
            rename World => w5
            obtain ⟨hKs5, hA5⟩ := KB.set (k := k4.cleared) hK11.row hR5 (by omega)
            obtain ⟨g7, hg7⟩ : ∃ g7, v2.ownBlock = some g7 := by
              rcases hatw2 with h | h
              · exact ⟨g6, h.trans hg6⟩
              · exact ⟨_, h⟩
            have hg7lt := own_lt hownw2 hg7
            have hnec : v2.ownBlock ≠ some w.heap.size := fun h => by have := own_base hownw2 h; omega
            go_roundw
            case rel =>
              refine ⟨k4.cleared, A5, c5, (o ++ [kk.longF dd]) ++ [k4.s.c], dd.drop bw.size, bd2, g7, rfl, HBS2.out, by omega, hKs5, hV4.cleared, (by show k4.s = _; rw [HS4.out]; exact HKS.out), HFT2.out, ?_, hg7, (fun a ha => by have := hA5 a ha; omega), (by repeat' (first | (with_reducible exact G.refl _) | (with_reducible assumption) | (with_reducible refine G.alloc ?_ _) | (with_reducible refine G.drew ?_) | (with_reducible refine G.drewN ?_ _) | (refine G.setCell ?_ (by first | (simp <;> done) | (simp <;> omega)) _) | (with_reducible refine G.trans ?_ (by with_reducible assumption)))), ?_, by simp; omega⟩
              · rw [cI_snoc, cI_snoc, List.length_append, List.length_append]
                exact own_set6 (own_g hownw2 h11) hnec
              · show _ = _
                rw [HGC.out, HGR.out, HS4.out]; simp
            case measure => simp; omega
          · have HGR : Hid (kk.greedy dd = kk.longF dd :: k4.greedy (dd.drop bw.size)) := by show _ = _; rw [HGRE.out, if_neg (fun h => hz (by have := h.2; rw [HN4.out] at this; simp at this; exact this.2))]
            refine wp_region_quiet_below (by kernel_rfl) (by kernel_rfl) ?_
            repeat (first | go_big_quiet_step ((first | (go_at_call 119; exact qcall (v_l2Next k4 hV4 A3 c3 _)) | (go_at_call 92; exact qcall (v_l1Last k4.s hV4.s _)))) | quiet_step ((first | (go_at_call 119; exact qcall (v_l2Next k4 hV4 A3 c3 _)) | (go_at_call 92; exact qcall (v_l1Last k4.s hV4.s _)))))
            refine wpQuiet_nil ?_
            intro w' hw'
            have h9 := G.of_regrown hw'
            clear hw'
            obtain ⟨hch9, hfh9⟩ := gcell h9
            go_wp2
            go_roundw
            case rel => exact ⟨k4, A3, c3, o ++ [kk.longF dd], dd.drop bw.size, bd2, g6, rfl, hbs2, by omega, hKB9.g h9, hV4, (by show _ = _; rw [HS4.out]; exact HKS.out), HFT2.out, (by rw [cI_snoc, List.length_append]; exact own_g hown9 h9), hg6, (fun a ha => by have := hA3 a ha; omega), (by repeat' (first | (with_reducible exact G.refl _) | (with_reducible assumption) | (with_reducible refine G.alloc ?_ _) | (with_reducible refine G.drew ?_) | (with_reducible refine G.drewN ?_ _) | (refine G.setCell ?_ (by first | (simp <;> done) | (simp <;> omega)) _) | (with_reducible refine G.trans ?_ (by with_reducible assumption)))), (by show _ = _; rw [HGC.out, HGR.out]; simp), by simp; omega⟩
            case measure => simp; omega
        · have HGR : Hid (kk.greedy dd = kk.longF dd :: k4.greedy (dd.drop bw.size)) := by show _ = _; rw [HGRE.out, if_neg (fun h => hy (by have := h.2; rw [HN4.out] at this; simp at this; exact this.1))]
          refine wp_region_quiet_below (by kernel_rfl) (by kernel_rfl) ?_
          repeat (first | go_big_quiet_step ((first | (go_at_call 119; exact qcall (v_l2Next k4 hV4 A3 c3 _)) | (go_at_call 92; exact qcall (v_l1Last k4.s hV4.s _)))) | quiet_step ((first | (go_at_call 119; exact qcall (v_l2Next k4 hV4 A3 c3 _)) | (go_at_call 92; exact qcall (v_l1Last k4.s hV4.s _)))))
          refine wpQuiet_nil ?_
          intro w' hw'
          have h9 := G.of_regrown hw'
          clear hw'
          obtain ⟨hch9, hfh9⟩ := gcell h9
          go_wp2
          go_roundw
          case rel => exact ⟨k4, A3, c3, o ++ [kk.longF dd], dd.drop bw.size, bd2, g6, rfl, hbs2, by omega, hKB9.g h9, hV4, (by show _ = _; rw [HS4.out]; exact HKS.out), HFT2.out, (by rw [cI_snoc, List.length_append]; exact own_g hown9 h9), hg6, (fun a ha => by have := hA3 a ha; omega), (by repeat' (first | (with_reducible exact G.refl _) | (with_reducible assumption) | (with_reducible refine G.alloc ?_ _) | (with_reducible refine G.drew ?_) | (with_reducible refine G.drewN ?_ _) | (refine G.setCell ?_ (by first | (simp <;> done) | (simp <;> omega)) _) | (with_reducible refine G.trans ?_ (by with_reducible assumption)))), (by show _ = _; rw [HGC.out, HGR.out]; simp), by simp; omega⟩
          case measure => simp; omega
end
end Go.Proofs.YtlaijbkonapdbaaGreat

namespace M
namespace Kn
/-- codes that can follow one after the other, the end code at the end or nowhere -/
def okW : Kn → List Nat → Prop
  | _, [] => True
  | k, code :: cs => (code = k.s.e ∧ cs = []) ∨ (code ≠ k.s.e ∧ (code = k.s.c ∨ k.follows code) ∧ okW (k.step code) cs)
theorem okW_of_okC (cs : List Nat) : ∀ k : Kn, okC k cs → okW k cs := by
  induction cs with
  | nil => intro k _; trivial
  | cons code cs ih =>
    intro k h
    rcases h with h | ⟨h1, h2, h3⟩
    · exact Or.inl h
    · exact Or.inr ⟨h1, h2, ih _ h3⟩
theorem dec_okW (bs : List Bool) : ∀ (k : Kn) (size n : Nat), k.V → n ≤ 3099 → size ≤ 2000 →
    okW k (dec k bs size n).codes ∧ size + (dat k (dec k bs size n).codes).length ≤ 2000 ∧ n + (dec k bs size n).codes.length ≤ 3100 := by
  generalize hm : bs.length = m
  induction m using Nat.strongRecOn generalizing bs with
  | _ m ih =>
    intro k size n h hn hs
    have hw := h.width_ge
    rcases Nat.lt_or_ge bs.length k.width with hl | hl
    · rw [dec_short k bs size n hl]; exact ⟨trivial, by simp [dat]; omega, by simp; omega⟩
    · obtain ⟨code, hc⟩ : ∃ code, numO k.s.ord (bs.take k.width) = code := ⟨_, rfl⟩
      rw [dec_step k bs size n hl hc]
      split
      · rename_i he
        exact ⟨Or.inl ⟨he, rfl⟩, by simp [dat, he]; omega, by simp; omega⟩
      · rename_i he
        split
        · exact ⟨trivial, by simp [dat]; omega, by simp; omega⟩
        · rename_i hfo
          have hfo' : code = k.s.c ∨ k.follows code := Decidable.not_not.1 hfo
          split
          · exact ⟨trivial, by simp [dat]; omega, by simp; omega⟩
          · rename_i hsz
            split
            · rename_i hn2
              refine ⟨Or.inr ⟨he, hfo', trivial⟩, by simp [dat, he]; omega, by simp; omega⟩
            · rename_i hn2
              obtain ⟨i1, i2, i3⟩ := ih (bs.drop k.width).length (by simp; omega) (bs.drop k.width) rfl (k.step code) (size + (k.out code).length) (n + 1) (h.step hfo') (by omega) (by omega)
              exact ⟨Or.inr ⟨he, hfo', i1⟩, by simp only [dat, if_neg he, List.length_append]; omega, by simp only [List.length_cons]; omega⟩
end Kn
end M

namespace Go.Proofs.YtlaijbkonapdbaaGreat
open Go.RowKit

theorem cI_get (l : List Nat) (i x : Nat) (h : l[i]? = some x) : (cI l)[i]? = some (.int .i64 x) := by simp [cI, h]
theorem alloc_at (w : World) (o : Obj) (b : Nat) (h : b = w.heap.size) : (w.alloc o).heap[b]? = some o := by subst h; exact heap_alloc_new w o

theorem held1 {w w' : World} (hg : G w w') {g i : Nat} {v : Value} (h : g < w.heap.size ∧ w.cell? ⟨g, i, none⟩ = some v) : g < w'.heap.size ∧ w'.cell? ⟨g, i, none⟩ = some v :=
  ⟨Nat.lt_of_lt_of_le h.1 hg.size, (hg.cell (p := ⟨g, i, none⟩) h.1).trans h.2⟩
theorem held8gr {w w' : World} {r : Option Nat} (hg : w.grownBy w' r) {b g i j : Nat} {v0 v1 v2 v3 v4 v5 v6 v7 : Value} (hb : r ≠ some b) (hg2 : r ≠ some g)
    (h : b < w.heap.size ∧ g < w.heap.size ∧ w.cell? ⟨b, 0, none⟩ = some v0 ∧ w.cell? ⟨b, 1, none⟩ = some v1 ∧ w.cell? ⟨b, 2, none⟩ = some v2 ∧ w.cell? ⟨b, 3, none⟩ = some v3 ∧ w.cell? ⟨b, 4, none⟩ = some v4 ∧ w.cell? ⟨b, 5, none⟩ = some v5 ∧ w.cell? ⟨g, i, none⟩ = some v6 ∧ w.cell? ⟨g, j, none⟩ = some v7) :
    b < w'.heap.size ∧ g < w'.heap.size ∧ w'.cell? ⟨b, 0, none⟩ = some v0 ∧ w'.cell? ⟨b, 1, none⟩ = some v1 ∧ w'.cell? ⟨b, 2, none⟩ = some v2 ∧ w'.cell? ⟨b, 3, none⟩ = some v3 ∧ w'.cell? ⟨b, 4, none⟩ = some v4 ∧ w'.cell? ⟨b, 5, none⟩ = some v5 ∧ w'.cell? ⟨g, i, none⟩ = some v6 ∧ w'.cell? ⟨g, j, none⟩ = some v7 := by
  obtain ⟨h1, h2, h3, h4, h5, h6, h7, h8, h9, h10⟩ := h
  have hg' : GR w w' r := hg
  exact ⟨Nat.lt_of_lt_of_le h1 hg.size, Nat.lt_of_lt_of_le h2 hg.size, (hg'.cell h1 hb 0).trans h3, (hg'.cell h1 hb 1).trans h4, (hg'.cell h1 hb 2).trans h5, (hg'.cell h1 hb 3).trans h6, (hg'.cell h1 hb 4).trans h7, (hg'.cell h1 hb 5).trans h8, (hg'.cell h2 hg2 i).trans h9, (hg'.cell h2 hg2 j).trans h10⟩

/-- a loop over codes: the variable with what is known, a row of numbers, a row of bytes, the variable for the result -/
structure WS (w W : World) (kk : M.Kn) (Ak : Option Addr) (ck : Nat) (v8 : Value) (ow : List Nat) (v9 : Value) (od : M.Bytes) : Prop where
  kb : KB W w.heap.size kk Ak ck
  o8 : W.ownsRow (w.heap.size + 2) 3 1 v8 ow.length (cI ow)
  o9 : W.ownsRow (w.heap.size + 2) 5 1 v9 od.length (cB od)
  ne : ∀ g, v8.ownBlock = some g → v9.ownBlock ≠ some g
  off : ∀ a, Ak = some a → v8.ownBlock ≠ some a.block ∧ v9.ownBlock ≠ some a.block ∧ a.block ≠ w.heap.size + 1
  rb : W.heap[w.heap.size + 1]? = some (.cells #[.int .i64 0, .int .i64 0, .int .i64 0, .slice none 0 0, .int .i64 0, .int .i64 0] 40 (0, 0))
  g : G w W

section
variable {w W W2 : World} {kk : M.Kn} {Ak : Option Addr} {ck : Nat} {v8 v9 : Value} {ow : List Nat} {od : M.Bytes}
theorem WS.up (h : WS w W kk Ak ck v8 ow v9 od) (hg : G W W2) : WS w W2 kk Ak ck v8 ow v9 od :=
  ⟨h.kb.g hg, own_g h.o8 hg, own_g h.o9 hg, h.ne, h.off, (hg.heap (lt_of_block h.rb)).trans h.rb, h.g.trans hg⟩
theorem WS.app8 (h : WS w W kk Ak ck v8 ow v9 od) {w1 : World} {v1 : Value} {x : Nat} (hgr : W.grownBy w1 v8.ownBlock) (ho : w1.ownsRow (w.heap.size + 2) 3 1 v1 (ow.length + 1) (cI ow ++ [.int .i64 x]))
    (hat : v1.ownBlock = v8.ownBlock ∨ v1.ownBlock = some W.heap.size) : WS w w1 kk Ak ck v1 (ow ++ [x]) v9 od := by
  have hb : ∀ g, v8.ownBlock = some g → w.heap.size + 2 ≤ g := fun g hg => own_base h.o8 hg
  refine ⟨h.kb.gr hgr (fun e => by have := hb _ e; omega) (fun a ha => (h.off a ha).1), by rw [cI_snoc, List.length_append]; exact ho, own_gr h.o9 hgr ?_, ?_, ?_, ?_, h.g.grown hgr (fun g hg => by have := hb g hg; omega)⟩
  · cases h9 : v9.ownBlock with
    | none => exact Or.inl rfl
    | some g9 => exact Or.inr fun e => h.ne g9 e.symm h9
  · intro g hg e
    rcases hat with h1 | h1
    · exact h.ne g (h1.symm.trans hg) e
    · have h2 := own_lt h.o9 e
      have h3 := Option.some.inj (h1.symm.trans hg)
      omega
  · intro a ha
    obtain ⟨f1, f2, f3⟩ := h.off a ha
    refine ⟨fun e => ?_, f2, f3⟩
    rcases hat with h1 | h1
    · exact f1 (h1.symm.trans e)
    · have h3 := Option.some.inj (h1.symm.trans e)
      have := h.kb.alt a ha; omega
  · exact (GR.far (show GR W w1 _ from hgr) (lt_of_block h.rb) (fun e => by have := hb _ e; omega)).trans h.rb
theorem WS.app9 (h : WS w W kk Ak ck v8 ow v9 od) {w1 : World} {v1 : Value} {x : M.Bytes} (hgr : W.grownBy w1 v9.ownBlock) (ho : w1.ownsRow (w.heap.size + 2) 5 1 v1 (od.length + x.length) (cB od ++ cB x))
    (hat : v1.ownBlock = v9.ownBlock ∨ v1.ownBlock = some W.heap.size) : WS w w1 kk Ak ck v8 ow v1 (od ++ x) := by
  have hb : ∀ g, v9.ownBlock = some g → w.heap.size + 2 ≤ g := fun g hg => own_base h.o9 hg
  refine ⟨h.kb.gr hgr (fun e => by have := hb _ e; omega) (fun a ha => (h.off a ha).2.1), own_gr h.o8 hgr ?_, by rw [cB_append, List.length_append]; exact ho, ?_, ?_, ?_, h.g.grown hgr (fun g hg => by have := hb g hg; omega)⟩
  · cases h8 : v8.ownBlock with
    | none => exact Or.inl rfl
    | some g8 => exact Or.inr fun e => h.ne g8 h8 e.symm
  · intro g hg e
    rcases hat with h1 | h1
    · exact h.ne g hg (h1.symm.trans e)
    · have h2 := own_lt h.o8 hg
      have h3 := Option.some.inj (h1.symm.trans e)
      omega
  · intro a ha
    obtain ⟨f1, f2, f3⟩ := h.off a ha
    refine ⟨f1, fun e => ?_, f3⟩
    rcases hat with h1 | h1
    · exact f2 (h1.symm.trans e)
    · have h3 := Option.some.inj (h1.symm.trans e)
      have := h.kb.alt a ha; omega
  · exact (GR.far (show GR W w1 _ from hgr) (lt_of_block h.rb) (fun e => by have := hb _ e; omega)).trans h.rb
/-- what is known is written anew -/
theorem WS.set (h : WS w W kk Ak ck v8 ow v9 od) {k2 : M.Kn} {A2 : Option Addr} {c2 base : Nat} (hg : G W W2) (hb : W.heap.size ≤ base) (ho : W2.ownsRow base 98 2 (.slice A2 k2.ps.length c2) k2.ps.length (cP k2.ps)) :
    WS w ((((((W2.setCell ⟨w.heap.size, 0, none⟩ (.int .i64 k2.s.ord)).setCell ⟨w.heap.size, 1, none⟩ (.int .i64 k2.s.lit)).setCell ⟨w.heap.size, 2, none⟩ (.int .i64 k2.s.most)).setCell ⟨w.heap.size, 3, none⟩ (.slice A2 k2.ps.length c2)).setCell ⟨w.heap.size, 4, none⟩ (.int .i64 k2.base)).setCell ⟨w.heap.size, 5, none⟩ (.int .i64 k2.last)) k2 A2 c2 v8 ow v9 od := by
  have h2 := h.up hg
  have hl := h.kb.lt
  have hl2 := lt_of_block h.rb
  obtain ⟨s1, s2⟩ := KB.set (k := k2) h2.kb.row ho (by omega)
  refine ⟨s1, own_set6 h2.o8 (fun e => by have := own_base h.o8 e; omega), own_set6 h2.o9 (fun e => by have := own_base h.o9 e; omega), h.ne, fun a ha => ?_, ?_, ?_⟩
  · have h3 := s2 a ha
    refine ⟨fun e => by have := own_lt h.o8 e; omega, fun e => by have := own_lt h.o9 e; omega, by omega⟩
  · rw [set_far (by omega), set_far (by omega), set_far (by omega), set_far (by omega), set_far (by omega), set_far (by omega)]
    exact h2.rb
  · exact G.setCell (G.setCell (G.setCell (G.setCell (G.setCell (G.setCell h2.g (Nat.le_refl _) _) (Nat.le_refl _) _) (Nat.le_refl _) _) (Nat.le_refl _) _) (Nat.le_refl _) _) (Nat.le_refl _) _
theorem WS.rfz (h : WS w W kk Ak ck v8 ow v9 od) (o : Nat) : W.frozen? ⟨w.heap.size + 1, o, none⟩ = false := frozen_of_row W _ o _ _ h.rb
theorem WS.rcell (h : WS w W kk Ak ck v8 ow v9 od) : W.cell? ⟨w.heap.size + 1, 0, none⟩ = some (.int .i64 0) ∧ W.cell? ⟨w.heap.size + 1, 1, none⟩ = some (.int .i64 0) ∧ W.cell? ⟨w.heap.size + 1, 2, none⟩ = some (.int .i64 0) ∧ W.cell? ⟨w.heap.size + 1, 3, none⟩ = some (.slice none 0 0) ∧ W.cell? ⟨w.heap.size + 1, 4, none⟩ = some (.int .i64 0) ∧ W.cell? ⟨w.heap.size + 1, 5, none⟩ = some (.int .i64 0) :=
  ⟨by rw [cell_of_row W _ 0 _ _ _ h.rb]; rfl, by rw [cell_of_row W _ 1 _ _ _ h.rb]; rfl, by rw [cell_of_row W _ 2 _ _ _ h.rb]; rfl, by rw [cell_of_row W _ 3 _ _ _ h.rb]; rfl, by rw [cell_of_row W _ 4 _ _ _ h.rb]; rfl, by rw [cell_of_row W _ 5 _ _ _ h.rb]; rfl⟩
end
end Go.Proofs.YtlaijbkonapdbaaGreat

namespace Go.Proofs.YtlaijbkonapdbaaGreat
open Go.RowKit
/-! A call of a Go function as a step of a region that draws its order, without a walk over the whole context. -/
section
variable {ops : Array Oper} {o : Oper} {a : Act} {Q : Exit → Act → World → Prop} {w : World} {K : Act → World → Prop} {E : Prop}
theorem run_fn {P : Program} (f : FuncId) (xs : Array Operand) (ts : Array TypeId) (ho : o.op = .call { callee := .value (.func f), args := xs, argTypes := ts }) (args : Array Value) (hargs : xs.map a.eval = args)
    (hc : ∀ args w, (callFunc f args).run P w = .ok (.enter f args) w) : (execOp a.eval o).run P w = .ok (.enter f args) w := by
  unfold execOp
  simp only [ho, resolve, hargs, Deferred.ofValue]
  simp [Act.eval, invoke, hc]
theorem step_fn {P : Program} (hgd : o.guard = none) (f : FuncId) (xs : Array Operand) (ts : Array TypeId) (ho : o.op = .call { callee := .value (.func f), args := xs, argTypes := ts }) (args : Array Value) (hargs : xs.map a.eval = args)
    (hc : ∀ args w, (callFunc f args).run P w = .ok (.enter f args) w) (h : Calls P f args w fun e w' => ∃ v, e = .returned v ∧ K (a.put o.dst v) w') :
    if Region.wanted o (yielded ops a.tmps) = true then Oper.wp P o a w K Q else E := by
  have hw : Region.wanted o (yielded ops a.tmps) = true := by simp [Region.wanted, hgd]
  rw [if_pos hw]
  unfold Oper.wp
  rw [run_fn f xs ts ho args hargs hc]
  refine h.mono ?_
  rintro e w' ⟨v, rfl, hk⟩
  exact hk
end
theorem cf_l2Any : ∀ args w, (callFunc 131 args).run Tryz.prog w = .ok (.enter 131 args) w := by intro args w; go_simp
theorem cf_l2Step : ∀ args w, (callFunc 136 args).run Tryz.prog w = .ok (.enter 136 args) w := by intro args w; go_simp
end Go.Proofs.YtlaijbkonapdbaaGreat
