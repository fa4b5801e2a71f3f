/-
  FnExactAppendDataSaid is proved: for every input FnExactAppendData returns true, and each argument reads afterwards as it read before; no conditions. Part 17 of 25.
-/
import Derived.Test.YtlaijbkonapdbaaGreatA09
import Derived.Test.YtlaijbkonapdbaaGreatA10
import Derived.Test.YtlaijbkonapdbaaGreatA15
import Derived.Test.YtlaijbkonapdbaaGreatA16

set_option linter.all false

namespace Go.Proofs.YtlaijbkonapdbaaGreat
open Go.RowKit
attribute [local go_sem] grow_cell grow_frozen conv_one
theorem cf_appendBits : ∀ args w, (callFunc 106 args).run Tryz.prog w = .ok (.enter 106 args) w := by intro args w; go_simp
theorem held2c {w w' : World} {r : Option Nat} (hg : GR w w' r) {a c k : Nat} {v0 v2 : Value} (ha : r ≠ some a) (hc : r ≠ some c)
    (h : a < w.heap.size ∧ c < w.heap.size ∧ w.cell? ⟨a, 0, none⟩ = some v0 ∧ w.cell? ⟨c, k, none⟩ = some v2) :
    a < w'.heap.size ∧ c < w'.heap.size ∧ w'.cell? ⟨a, 0, none⟩ = some v0 ∧ w'.cell? ⟨c, k, none⟩ = some v2 := by
  obtain ⟨h1, h2, h3, h4⟩ := h
  have hs := hg.size
  exact ⟨by omega, by omega, (hg.cell h1 ha 0).trans h3, (hg.cell h2 hc k).trans h4⟩
section
variable (k : M.Kn) (hk : k.V) (A : Option Addr) (c : Nat) (w : World) (hr : Rds w 2 A k.ps.length (cP k.ps)) (hA : ∀ a, A = some a → a.block < w.heap.size)
include hk hr hA
set_option maxRecDepth 8000 in
set_option maxHeartbeats 4000000 in
theorem v_PackCodes (cs : List Nat) (hcs : cs.length ≤ 3100) (ho : M.Kn.okW k cs) (hdt : (M.Kn.dat k cs).length ≤ 2000) (hel : (M.Kn.enc k cs).length ≤ 32000) (Ac : Option Addr) (cc : Nat) (hrc : Rds w 1 Ac cs.length (cI cs)) :
    Calls Tryz.prog 87 #[knV k A c, .slice Ac cs.length cc] w fun e w' => e = .returned (.tuple #[S (M.packB k.s.ord (M.Kn.enc k cs)), .bool true]) ∧ G w w' := by
  have HRC := Lib.hid hrc
  have HA := Lib.hid hA
  have HO := Lib.hid ho
  have HR := Lib.hid hr
  have HDT := Lib.hid hdt
  have HEL := Lib.hid hel
  clear ho hdt hr hA hrc hel
  go_enter Tryz.func87, Tryz.ntmps87
  go_wp2_with (first | (go_at_call 105; refine (v_walkCodes k hk A c _ (HR.out.g (by repeat' (first | (with_reducible exact G.refl _) | (with_reducible assumption) | (with_reducible refine G.alloc ?_ _) | (with_reducible refine G.drew ?_) | (with_reducible refine G.drewN ?_ _) | (refine G.setCell ?_ (by first | (simp <;> done) | (simp <;> omega)) _) | (with_reducible refine G.trans ?_ (by with_reducible assumption))))) (fun a ha => by have := HA.out a ha; simp; omega) cs hcs HO.out HDT.out Ac cc (HRC.out.g (by repeat' (first | (with_reducible exact G.refl _) | (with_reducible assumption) | (with_reducible refine G.alloc ?_ _) | (with_reducible refine G.drew ?_) | (with_reducible refine G.drewN ?_ _) | (refine G.setCell ?_ (by first | (simp <;> done) | (simp <;> omega)) _) | (with_reducible refine G.trans ?_ (by with_reducible assumption)))))).mono ?_; rintro e w' ⟨⟨Aw, cw, rfl, hR1⟩, h2⟩; obtain ⟨hch2, hfh2⟩ := gcell h2) | fail)
  rename World => wW
  go_loopw [9, 23] (fun v x wr => ∃ (kk : M.Kn) (i : Nat) (rest : List Nat) (ob : List Bool), x = .int .i64 i ∧ i ≤ cs.length ∧ Hid (cs.drop i = rest) ∧ Hid ((M.Kn.widths k cs).drop i = M.Kn.widths kk rest) ∧ Hid (rest ≠ [] → kk.V) ∧ Hid (kk.s = k.s) ∧ Hid (M.Kn.okW kk rest) ∧ Hid (M.Kn.enc k cs = ob ++ M.Kn.enc kk rest) ∧ ob.length ≤ 10 * i
      ∧ wr.ownsRow wW.heap.size 5 1 v (ob.map M.bch).length (cB (ob.map M.bch)) ∧ GR wW wr none ∧ VR wW none v) (fun _ x _ => cs.length - (intOf x).toNat)
  case atStart => exact ⟨k, 0, cs, [], rfl, by omega, rfl, rfl, fun _ => hk, rfl, HO.out, rfl, by simp, World.ownsRow_nil _ _ _ _, GR.refl _ _, VR.nil _ _⟩
  case round =>
    obtain ⟨kk, i, rest, ob, rfl, hi, HRS, HWR, HKV, HKS, HOK, HE, hob, hown, hG, hV⟩ := hrel
    by_cases hlt : i < cs.length
    · obtain ⟨code, hcode⟩ : ∃ x, cs[i]? = some x := ⟨_, List.getElem?_eq_getElem hlt⟩
      obtain ⟨cs', hcs'⟩ : ∃ x, cs.drop (i + 1) = x := ⟨_, rfl⟩
      have hrest : rest = code :: cs' := by
        rw [← HRS.out, List.drop_eq_getElem_cons hlt, ← hcs']
        rw [List.getElem?_eq_getElem hlt] at hcode; injection hcode with hcode; rw [hcode]
      subst hrest
      have HKV2 : Hid kk.V := HKV.out (by simp)
      have hwc : (M.Kn.widths k cs)[i]? = some kk.width := by
        have h := congrArg (fun l => l[0]?) HWR.out
        simpa [M.Kn.widths, List.getElem?_drop] using h
      obtain ⟨gc, hAc, hgc, hcell⟩ := HRC.out.at_ (by omega)
      have hcv := hcell i _ (cI_get cs i code hcode)
      obtain ⟨gw, hAw, hgw, hcellw⟩ := (Rds.own hR1).at_ (by omega)
      have hwv := hcellw i _ (cI_get _ i _ hwc)
      have hs1 := h2.size
      simp at hs1
      have hc1024 : code < 1024 := by
        have h1 := HKV2.out.greatest_le; have h3 := HKV2.out.s.l1024; have h4 := HKV2.out.s.c256; have h5 := M.St.e_eq kk.s
        rcases HOK.out with ⟨he, _⟩ | ⟨_, he | hf, _⟩
        · omega
        · omega
        · have := HKV2.out.c_lt_width; have := M.Kn.V.greatest_lt_width (k := kk); unfold M.Kn.follows at hf; omega
      have hw10 := HKV2.out.width_le
      have ho1 : k.s.ord ≤ 1 := hk.s.ord
      have hlV : ∀ g, u9.ownBlock = some g → wW.heap.size ≤ g := fun g hg => by rcases hV g hg with h | h; cases h; exact h
      have hcW : wr.cell? ⟨w.heap.size, 0, none⟩ = some (.int .i64 k.s.ord) := (hG.cell (by omega) (by simp) 0).trans ((h2.cell (p := ⟨w.heap.size, 0, none⟩) (by simp)).trans (by go_cell))
      have hcC : wr.cell? ⟨gc, i, none⟩ = some (.int .i64 code) := (hG.cell (by omega) (by simp) i).trans (((show G w wW from (by repeat' (first | (with_reducible exact G.refl _) | (with_reducible assumption) | (with_reducible refine G.alloc ?_ _) | (with_reducible refine G.drew ?_) | (with_reducible refine G.drewN ?_ _) | (refine G.setCell ?_ (by first | (simp <;> done) | (simp <;> omega)) _) | (with_reducible refine G.trans ?_ (by with_reducible assumption))))).cell (p := ⟨gc, i, none⟩) hgc).trans hcv)
      have hcw2 : wr.cell? ⟨gw, i, none⟩ = some (.int .i64 kk.width) := (hG.cell hgw (by simp) i).trans hwv
      have hsg := hG.size
      have z1 : w.heap.size < wr.heap.size := by omega
      have z2 : gc < wr.heap.size := by omega
      have z3 : gw < wr.heap.size := by omega
      have n1 : u9.ownBlock ≠ some w.heap.size := fun e => by have := hlV _ e; omega
      have n3 : u9.ownBlock ≠ some gw := fun e => by have := hlV _ e; omega
      subst hAc
      subst hAw
      have b1 : (0 : Int) ≤ (i : Int) := by omega
      have b2 : (i : Int) < (cs.length : Int) := by omega
      have HCS := Lib.hid hcs'
      have HWC := Lib.hid hwc
      clear hcs' hwc hcode hcell hcellw hcv hwv
      go_wp2
      go_region_held3 (fun w' => w.heap.size < w'.heap.size ∧ gw < w'.heap.size ∧ w'.cell? ⟨w.heap.size, 0, none⟩ = some (.int .i64 k.s.ord) ∧ w'.cell? ⟨gw, i, none⟩ = some (.int .i64 kk.width)) (first | exact held2c hg5 n1 n3 ⟨z1, z3, hcW, hcw2⟩ | exact ⟨z1, z3, hcW, hcw2⟩) (first | (refine step_fn ?_ 106 #[.tmp 28, .tmp 31, .tmp 32, .tmp 36] #[60, 3, 3, 3] ?_ #[u9, .int .i64 k.s.ord, .int .i64 code, .int .i64 kk.width] ?_ cf_appendBits ?_; exact rfl; exact rfl; (simp only [List.map_toArray, List.map_cons, List.map_nil, Act.eval]; rfl); refine (v_appendBits k.s.ord code kk.width ho1 hw10 hc1024 wW.heap.size _ (ob.map M.bch) (by simp; omega) _ (own_g hown (by repeat' (first | (with_reducible exact G.refl _) | (with_reducible assumption) | (with_reducible refine G.alloc ?_ _) | (with_reducible refine G.drew ?_) | (with_reducible refine G.drewN ?_ _) | (refine G.setCell ?_ (by first | (simp <;> done) | (simp <;> omega)) _) | (with_reducible refine G.trans ?_ (by with_reducible assumption))))) (by (try simp only [World.size_drew]); omega)).mono ?_; rintro e wA ⟨v5, rfl, hR5, hg5, hv5⟩; skip; refine ⟨_, rfl, ?_⟩) | fail)
      all_goals
        go_wp2
        go_roundw
        case rel =>
          have hstep : ∀ h : cs' ≠ [], (kk.step code).V ∧ True := fun h => by
            rcases HOK.out with ⟨_, hn⟩ | ⟨_, hf, _⟩
            · exact absurd hn h
            · exact ⟨HKV2.out.step hf, trivial⟩
          refine ⟨kk.step code, i + 1, cs', ob ++ M.bitsO k.s.ord code kk.width, by go_num, by omega, HCS.out, ?_, fun h => (hstep h).1, ?_, ?_, ?_, ?_, ?_, ?_, ?_⟩
          · have h := congrArg List.tail HWR.out
            show _ = _
            simpa [M.Kn.widths, List.tail_drop] using h
          · show _ = _; rw [M.Kn.step_s]; exact HKS.out
          · rcases HOK.out with ⟨_, hn⟩ | ⟨_, _, hok⟩
            · rw [hn]; trivial
            · exact hok
          · show _ = _; rw [HE.out]; simp only [M.Kn.enc]; rw [HKS.out]; simp
          · simp; omega
          · rw [List.map_append]; exact hR5
          · exact (hG.g (by repeat' (first | (with_reducible exact G.refl _) | (with_reducible assumption) | (with_reducible refine G.alloc ?_ _) | (with_reducible refine G.drew ?_) | (with_reducible refine G.drewN ?_ _) | (refine G.setCell ?_ (by first | (simp <;> done) | (simp <;> omega)) _) | (with_reducible refine G.trans ?_ (by with_reducible assumption))))).step (v := u9) hV hg5
          · exact hV.trans (by simpa using hsg) hv5
        case measure => simp [intOf]; omega
    · have hi1 : i = cs.length := by omega
      have hrest : rest = [] := by rw [← HRS.out, hi1]; simp
      have e1 : M.Kn.enc k cs = ob := by rw [HE.out, hrest]; simp [M.Kn.enc]
      obtain ⟨A9, c9, e9⟩ := own_form hown
      subst e9
      have HE1 := Lib.hid e1
      have hs1 := h2.size
      simp at hs1
      have hcW : wr.cell? ⟨w.heap.size, 0, none⟩ = some (.int .i64 k.s.ord) := (hG.cell (by omega) (by simp) 0).trans ((h2.cell (p := ⟨w.heap.size, 0, none⟩) (by simp)).trans (by go_cell))
      have hconv := conv_own _ _ _ _ _ _ hown
      obtain ⟨y, hy⟩ : ∃ y : ByteArray, bs y = ob.map M.bch := ⟨⟨(ob.map M.bch).toArray⟩, rfl⟩
      have HYS : Hid (S (ob.map M.bch) = .string y) := (bs_eq hy).symm
      rw [HYS.out, List.length_map] at hconv
      have HY := Lib.hid hy
      have HOL : Hid (ob.length ≤ 32000) := by show _ ≤ _; rw [← HE1.out]; exact HEL.out
      have ho1 : k.s.ord ≤ 1 := hk.s.ord
      have hGw : G w wr := (show G w wW from (by repeat' (first | (with_reducible exact G.refl _) | (with_reducible assumption) | (with_reducible refine G.alloc ?_ _) | (with_reducible refine G.drew ?_) | (with_reducible refine G.drewN ?_ _) | (refine G.setCell ?_ (by first | (simp <;> done) | (simp <;> omega)) _) | (with_reducible refine G.trans ?_ (by with_reducible assumption))))).trans hG.toG
      clear hown e1 hi1 hrest hy h2 hch2 hfh2
      go_wp2_with (first | (go_at_call 107; refine (v_PackBits k.s.ord ho1 ob HOL.out y HY.out _).mono ?_; rintro e w' ⟨rfl, h9⟩; obtain ⟨hch9, hfh9⟩ := gcell h9; skip) | fail)
      go_ret2
      exact ⟨by rw [HE1.out]; rfl, (by repeat' (first | (with_reducible exact G.refl _) | (with_reducible assumption) | (with_reducible refine G.alloc ?_ _) | (with_reducible refine G.drew ?_) | (with_reducible refine G.drewN ?_ _) | (refine G.setCell ?_ (by first | (simp <;> done) | (simp <;> omega)) _) | (with_reducible refine G.trans ?_ (by with_reducible assumption))))⟩
end
end Go.Proofs.YtlaijbkonapdbaaGreat

namespace M
namespace Kn
/-- the codes from here on, a clear code first where all codes are used up -/
def gG (k : Kn) (d : Bytes) : List Nat := if d ≠ [] ∧ k.full = true then k.s.c :: greedy k.cleared d else greedy k d
theorem gG_nil (k : Kn) : gG k [] = [] := by unfold gG; rw [if_neg (fun h => h.1 rfl), greedy_nil]
theorem gG_full {k : Kn} {d : Bytes} (hd : d ≠ []) (h : k.full = true) : gG k d = k.s.c :: greedy k.cleared d := by unfold gG; rw [if_pos ⟨hd, h⟩]
theorem gG_not {k : Kn} {d : Bytes} (h : k.full = false) : gG k d = greedy k d := by unfold gG; rw [if_neg (fun h2 => by rw [h] at h2; exact absurd h2.2 (by simp))]
theorem greedy_gG (k : Kn) {d : Bytes} (hd : d ≠ []) : greedy k d = k.longF d :: gG (k.after (k.longF d)) (d.drop (k.cut d)) := by
  rw [greedy_cons k d hd]; unfold gG; split <;> rfl
theorem cleared_full {k : Kn} (h : k.V) : k.cleared.full = false := by
  unfold full cleared
  simp only [decide_eq_false_iff_not]
  intro h2
  have h3 := h2.2
  simp at h3
  omega
theorem codes_gG {k : Kn} (h : k.V) (d : Bytes) : greedyCodes k d = k.s.c :: (gG k.cleared d ++ [k.s.e]) := by unfold greedyCodes; rw [gG_not (cleared_full h)]
end Kn
end M
namespace Go.Proofs.YtlaijbkonapdbaaGreat
open Go.RowKit
attribute [local go_sem] grow_cell grow_frozen conv_one
theorem cf_follow : ∀ args w, (callFunc 82 args).run Tryz.prog w = .ok (.enter 82 args) w := by intro args w; go_simp

def FW.with_ (w W : World) (v : Value) : FW := ⟨w, fun k => if v.ownBlock = some k then W.heap[k]? else none⟩
def AJ (v : Value) (A : Option Addr) : Prop := ∀ x : Addr, A = some x → v.ownBlock ≠ some x.block
theorem AJ.dj {v : Value} {A : Option Addr} (h : AJ v A) (n c : Nat) : DJ v (.slice A n c) := fun g hg e => by
  obtain ⟨a, ha, e2⟩ := ob_slice.1 e
  exact h a ha (by rw [e2]; exact hg)
theorem AJ.of {v : Value} {A : Option Addr} {n c : Nat} (h : DJ v (.slice A n c)) : AJ v A := fun x hx e => h _ e (ob_slice.2 ⟨x, hx, rfl⟩)
section
variable {w W W2 : World} {g : Nat} {s : M.St} {ps : List (Nat × Nat)} {base : Nat} {last : Int} {N : List M.Nd} {I : List Nat} {A0 An Ai : Option Addr} {c0 cn ci : Nat} {v : Value}
theorem TG.guest (h : TG (FW.of w) W g s ps base last N I A0 c0 An cn Ai ci) (h0 : AJ v A0) (hn : AJ v An) (hi : AJ v Ai) (hg : v.ownBlock ≠ some g) : TG (FW.with_ w W v) W g s ps base last N I A0 c0 An cn Ai ci := by
  have key : ∀ A : Option Addr, AJ v A → ∀ x : Addr, A = some x → (FW.with_ w W v).p x.block = none := fun A hA x hx => if_neg (hA x hx)
  refine ⟨h.row, h.op, h.on, h.oi, h.d1, h.d2, h.gb, h.fr, ⟨fun b o hb => ?_, if_neg hg, key _ h0, key _ hn, key _ hi⟩⟩
  unfold FW.with_ at hb
  simp only at hb
  split at hb
  · exact hb
  · cases hb
theorem TG.plain {f : FW} (h : TG f W g s ps base last N I A0 c0 An cn Ai ci) : TG (FW.of f.w) W g s ps base last N I A0 c0 An cn Ai ci := ⟨h.row, h.op, h.on, h.oi, h.d1, h.d2, h.gb, h.fr, PR.of⟩
theorem TG.weaken {w0 : World} (h : TG (FW.of w) W g s ps base last N I A0 c0 An cn Ai ci) (hg : G w0 w) : TG (FW.of w0) W g s ps base last N I A0 c0 An cn Ai ci :=
  ⟨h.row, h.op, h.on, h.oi, h.d1, h.d2, Nat.le_trans hg.size h.gb, hg.trans h.fr, PR.of⟩
theorem v_follow_clear2 (k : M.Kn) (hk : k.V) (w : FW) (W : World) (g : Nat) (A0 : Option Addr) (c0 : Nat) (An : Option Addr) (cn : Nat) (Ai : Option Addr) (ci : Nat) (hT : TB w W g k A0 c0 An cn Ai ci) (x : Nat) (hx : x = k.s.c) : Calls Tryz.prog 82 #[.pointer (some ⟨g, 0, none⟩), .int .i64 x] W fun e W' => e = .returned (.tuple #[]) ∧ ∃ A0 c0 An cn Ai ci, TB w W' g k.cleared A0 c0 An cn Ai ci := by
  subst hx; exact v_follow_clear k hk w W g A0 c0 An cn Ai ci hT
theorem TG.kept {b2 size n : Nat} {e : TypeId} {xs : List Value} (h : TG (FW.with_ w W v) W2 g s ps base last N I A0 c0 An cn Ai ci) (ho : W.ownsRow b2 e size v n xs) : W2.ownsRow b2 e size v n xs ∧ AJ v A0 ∧ AJ v An ∧ AJ v Ai ∧ v.ownBlock ≠ some g := by
  have key : ∀ b, v.ownBlock = some b → ∃ o, (FW.with_ w W v).p b = some o ∧ W.heap[b]? = some o := by
    intro b hb
    have hlt := own_lt ho hb
    exact ⟨W.heap[b], by show (if v.ownBlock = some b then W.heap[b]? else none) = _; rw [if_pos hb]; simp [hlt], by simp [hlt]⟩
  have key2 : ∀ A : Option Addr, (∀ x : Addr, A = some x → (FW.with_ w W v).p x.block = none) → AJ v A := fun A hA x hx e => by
    obtain ⟨o, h1, _⟩ := key _ e
    rw [hA x hx] at h1; cases h1
  refine ⟨?_, key2 _ h.pr.p0, key2 _ h.pr.pn, key2 _ h.pr.pi, fun e => ?_⟩
  · refine ⟨ho.1, ?_⟩
    rcases ho.2 with h2 | ⟨g', cap, cur, hv, hb, hh, r⟩
    · exact Or.inl h2
    · obtain ⟨o, h1, h2⟩ := key g' (by rw [hv]; rfl)
      exact Or.inr ⟨g', cap, cur, hv, hb, (h.pr.hp _ _ h1).trans (h2.symm.trans hh), r⟩
  · obtain ⟨o, h1, _⟩ := key _ e
    rw [h.pr.pg] at h1; cases h1
theorem TG.far (h : TG (FW.of w) W g s ps base last N I A0 c0 An cn Ai ci) (hgr : W.grownBy W2 v.ownBlock) (h0 : AJ v A0) (hn : AJ v An) (hi : AJ v Ai) (hg : v.ownBlock ≠ some g) (hw : ∀ b, v.ownBlock = some b → w.heap.size ≤ b) : TG (FW.of w) W2 g s ps base last N I A0 c0 An cn Ai ci :=
  ⟨far_row h hgr hg, own_dj h.op hgr (h0.dj _ _), own_dj h.on hgr (hn.dj _ _), own_dj h.oi hgr (hi.dj _ _), h.d1, h.d2, h.gb, h.fr.grown hgr hw, PR.of⟩
end
/-- the tree, and a row of codes beside it -/
structure GS (w W : World) (g : Nat) (k : M.Kn) (A0 : Option Addr) (c0 : Nat) (An : Option Addr) (cn : Nat) (Ai : Option Addr) (ci : Nat) (v : Value) (ow : List Nat) : Prop where
  t : TB (FW.of w) W g k A0 c0 An cn Ai ci
  o : W.ownsRow w.heap.size 3 1 v ow.length (cI ow)
  d0 : AJ v A0
  dn : AJ v An
  di : AJ v Ai
  vg : v.ownBlock ≠ some g
section
variable {w W W2 : World} {g : Nat} {k k2 : M.Kn} {A0 An Ai B0 Bn Bi : Option Addr} {c0 cn ci e0 en ei : Nat} {v v2 : Value} {ow : List Nat}
theorem GS.up (h : GS w W g k A0 c0 An cn Ai ci v ow) (hg : G W W2) : GS w W2 g k A0 c0 An cn Ai ci v ow := ⟨h.t.up hg, own_g h.o hg, h.d0, h.dn, h.di, h.vg⟩
theorem GS.guest (h : GS w W g k A0 c0 An cn Ai ci v ow) : TB (FW.with_ w W v) W g k A0 c0 An cn Ai ci := h.t.guest h.d0 h.dn h.di h.vg
theorem GS.step (h : GS w W g k A0 c0 An cn Ai ci v ow) (ht : TB (FW.with_ w W v) W2 g k2 B0 e0 Bn en Bi ei) : GS w W2 g k2 B0 e0 Bn en Bi ei v ow := by
  obtain ⟨a, b, c, d, e⟩ := ht.kept h.o
  exact ⟨ht.plain, a, b, c, d, e⟩
theorem GS.app (h : GS w W g k A0 c0 An cn Ai ci v ow) {x : Nat} (hgr : W.grownBy W2 v.ownBlock) (ho : W2.ownsRow w.heap.size 3 1 v2 (ow.length + 1) (cI ow ++ [.int .i64 x])) (hat : v2.ownBlock = v.ownBlock ∨ v2.ownBlock = some W.heap.size) :
    GS w W2 g k A0 c0 An cn Ai ci v2 (ow ++ [x]) :=
  ⟨h.t.far hgr h.d0 h.dn h.di h.vg (fun b hb => own_base h.o hb), by rw [cI_snoc, List.length_append]; exact ho,
    AJ.of ((h.d0.dj k.ps.length c0).vr h.t.op (VR.at_ hat)), AJ.of ((h.dn.dj (M.nodesOf (kL k)).length cn).vr h.t.on (VR.at_ hat)), AJ.of ((h.di.dj (M.idxs k.s.c k.ps).length ci).vr h.t.oi (VR.at_ hat)),
    fun e => by
      rcases hat with h1 | h1
      · exact h.vg (h1.symm.trans e)
      · have h2 := Option.some.inj (e.symm.trans h1); have := h.t.lt; omega⟩
theorem GS.new (h : TB (FW.of w) W g k A0 c0 An cn Ai ci) (x : Nat) : GS w (W.alloc (.cells #[.int .i64 x] 3)) g k A0 c0 An cn Ai ci (.slice (some ⟨W.heap.size, 0, none⟩) 1 1) [x] := by
  have key : ∀ (A : Option Addr) {b2 size n m c : Nat} {e : TypeId} {xs : List Value}, W.ownsRow b2 e size (.slice A m c) n xs → AJ (.slice (some ⟨W.heap.size, 0, none⟩) 1 1) A := fun A _ _ _ _ _ _ _ ho y hy e => by
    have := own_lt ho (ob_slice.2 ⟨y, hy, rfl⟩)
    have h2 := Option.some.inj e
    simp only at h2
    omega
  have hw : w.heap.size ≤ W.heap.size := h.fr.size
  refine ⟨h.up ((G.refl _).alloc _), own_lit W 3 1 w.heap.size _ 1 [.int .i64 x] rfl (by omega) rfl hw, key _ h.op, key _ h.on, key _ h.oi, fun e => ?_⟩
  have h2 := Option.some.inj e
  simp only at h2
  have := h.lt
  omega
end
section
variable (k : M.Kn) (hk : k.V) (A : Option Addr) (c : Nat) (w : World) (hr : Rds w 2 A k.ps.length (cP k.ps)) (hA : ∀ a, A = some a → a.block < w.heap.size)
include hk hr hA
set_option maxRecDepth 8000 in
set_option maxHeartbeats 4000000 in
theorem v_greedy (d : M.Bytes) (hd : M.Kn.fits k.s.c d) (y : ByteArray) (hy : bs y = d) (hyz : y.size ≤ 2000) :
    Calls Tryz.prog 104 #[knV k A c, .string y] w fun e w' => (∃ A' c', e = .returned (.slice A' (M.Kn.greedyCodes k d).length c') ∧ w'.ownsRow w.heap.size 3 1 (.slice A' (M.Kn.greedyCodes k d).length c') (M.Kn.greedyCodes k d).length (cI (M.Kn.greedyCodes k d))) ∧ G w w' := by
  have hs := hk.s
  have HY := Lib.hid hy
  have HD := Lib.hid hd
  have HR := Lib.hid hr
  have HA := Lib.hid hA
  have HV := Lib.hid hk
  have HGC := Lib.hid (M.Kn.codes_gG hk d)
  clear hy hd hr hA
  go_enter Tryz.func104, Tryz.ntmps104
  go_upto_region 1 with fail
  obtain ⟨k9, kf, k0, k1, k2, k3, k4, k5⟩ := row6 (alloc_at w (.cells #[.int .i64 k.s.ord, .int .i64 k.s.lit, .int .i64 k.s.most, .slice A k.ps.length c, .int .i64 k.base, .int .i64 k.last] 40) w.heap.size rfl)
  refine wp_gen (fun W => G w W ∧ W.heap[w.heap.size]? = some (.cells #[.int .i64 k.s.ord, .int .i64 k.s.lit, .int .i64 k.s.most, .slice A k.ps.length c, .int .i64 k.base, .int .i64 k.last] 40 (0, 0))) ⟨(by repeat' (first | (with_reducible exact G.refl _) | (with_reducible assumption) | (with_reducible refine G.alloc ?_ _) | (with_reducible refine G.drew ?_) | (with_reducible refine G.drewN ?_ _) | (refine G.setCell ?_ (by first | (simp <;> done) | (simp <;> omega)) _) | (with_reducible refine G.trans ?_ (by with_reducible assumption)))), alloc_at _ _ _ rfl⟩ ?_
  rintro W1 ⟨hG1, hb1⟩
  clear k9 kf k0 k1 k2 k3 k4 k5
  obtain ⟨k9, kf, k0, k1, k2, k3, k4, k5⟩ := row6 hb1
  refine wp_region_quiet_below (by kernel_rfl) (by kernel_rfl) ?_
  repeat (first | go_big_quiet_step ((first | (go_at_call 80; exact qcall (v_ClearCode k.s hk.s _)) | (go_at_call 78; exact qcall (v_EndCode k.s hk.s _)))) | quiet_step ((first | (go_at_call 80; exact qcall (v_ClearCode k.s hk.s _)) | (go_at_call 78; exact qcall (v_EndCode k.s hk.s _)))))
  refine wpQuiet_nil ?_
  intro w' hw'
  have h4 := G.of_regrown hw'
  clear hw'
  obtain ⟨hch4, hfh4⟩ := gcell h4
  go_upto_region 2 with fail
  refine wp_gen (fun W => G w W ∧ W.heap[w.heap.size]? = some (.cells #[.int .i64 k.s.ord, .int .i64 k.s.lit, .int .i64 k.s.most, .slice A k.ps.length c, .int .i64 k.base, .int .i64 k.last] 40 (0, 0))) ⟨hG1.trans h4, (h4.heap k9).trans hb1⟩ ?_
  rintro W2 ⟨hG2, hb2⟩
  clear k9 kf k0 k1 k2 k3 k4 k5 hch4 hfh4 h4 hb1 hG1
  obtain ⟨k9, kf, k0, k1, k2, k3, k4, k5⟩ := row6 hb2
  have hs2 := hG2.size
  go_wp2_with (first | (go_at_call 81; refine (v_newTree k hk A c W2 (HR.out.g hG2) (fun a ha => by have := HA.out a ha; omega)).mono ?_; rintro e w' ⟨rfl, A0, c0, An, cn, Ai, ci, hT⟩; have hl := hT.lt) | (go_at_call 82; refine (v_follow_clear k hk (FW.of W2) _ (W2.heap.size + 1) A0 c0 An cn Ai ci hT).mono ?_; rintro e w' ⟨rfl, A2, c2, An2, cn2, Ai2, ci2, hT2⟩) | fail)
  have hGS := GS.new (hT2.weaken hG2) k.s.c
  obtain ⟨gt, hgt⟩ : ∃ gt, gt = W2.heap.size + 1 := ⟨_, rfl⟩
  rw [← hgt] at hGS
  rw [← hgt]
  have hcu : y.size ≤ 2000 := hyz
  clear hT hT2 hl k9 kf k0 k1 k2 k3 k4 k5 hb2 hgt
  go_loopw [8, 1] (fun v x wr => ∃ (kk : M.Kn) (tt : M.Bytes) (yy : ByteArray) (ow : List Nat) (A0 : Option Addr) (c0 : Nat) (An : Option Addr) (cn : Nat) (Ai : Option Addr) (ci : Nat), x = .string yy ∧ Hid (bs yy = tt) ∧ GS w wr gt kk A0 c0 An cn Ai ci v ow ∧ Hid (kk.V) ∧ Hid (kk.s = k.s) ∧ Hid (M.Kn.fits kk.s.c tt) ∧ Hid (M.Kn.greedyCodes k d = ow ++ (M.Kn.gG kk tt ++ [k.s.e])) ∧ ow.length + 2 * yy.size ≤ 2 * y.size + 1) (fun _ x _ => match x with | .string s => s.size | _ => 0)
  case atStart => exact ⟨k.cleared, d, y, [k.s.c], _, _, _, _, _, _, rfl, HY.out, hGS, hk.cleared, rfl, HD.out, HGC.out, by simp; omega⟩
  case round =>
    obtain ⟨kk, tt, yy, ow, A0, c0, An, cn, Ai, ci, rfl, HTT, hGr, HKV, HKS, HFT, HCO, hol⟩ := hrel
    by_cases htt : tt = []
    · have hq1 : yy.toList.isEmpty = true := by rw [ByteArray.toList_eq, show yy.data.toList = tt from HTT.out, htt]; rfl
      have HC : Hid (M.Kn.greedyCodes k d = ow ++ [k.s.e]) := by show _ = _; rw [HCO.out, htt, M.Kn.gG_nil]; rfl
      have hol3 : ow.length ≤ 5000 := by omega
      have hgw : w.heap.size ≤ wr.heap.size := hGr.t.fr.size
      have hG9 : G w wr := hGr.t.fr
      clear htt hol
      go_wp2_with (first | (at_builtin; refine app_int rfl (.tmp 54) (.tmp 56) rfl w.heap.size _ _ _ rfl (hGr.o.alloc _) ⟨_, 0, none⟩ 1 1 [_] rfl rfl (cell_one_new _ _ _) (by simp [Value.oneCell']) (by omega) (by simp; omega) ?_; intro v1 w1 hownw1 hgw1 hatw1) | fail)
      go_ret
      rw [HC.out]
      obtain ⟨A9, c9, e9⟩ := own_form hownw1
      subst e9
      have hl : (ow ++ [k.s.e]).length = ow.length + 1 := by simp
      rw [hl, cI_snoc]
      exact ⟨⟨A9, c9, rfl, hownw1⟩, G.grown (a := w) ((by repeat' (first | (with_reducible exact G.refl _) | (with_reducible assumption) | (with_reducible refine G.alloc ?_ _) | (with_reducible refine G.drew ?_) | (with_reducible refine G.drewN ?_ _) | (refine G.setCell ?_ (by first | (simp <;> done) | (simp <;> omega)) _) | (with_reducible refine G.trans ?_ (by with_reducible assumption))))) hgw1 (fun g h => own_base hGr.o h)⟩
    · have hq1 : yy.toList.isEmpty = false := by rw [ByteArray.toList_eq, show yy.data.toList = tt from HTT.out]; simpa using htt
      cases hfu : kk.full with
      | false =>
        have HC : Hid (M.Kn.greedyCodes k d = ow ++ (M.Kn.greedy kk tt ++ [k.s.e])) := by show _ = _; rw [HCO.out, M.Kn.gG_not hfu]
        have HKV2 := HKV
        have HFT2 := HFT
        have hG1 := hGr.t.fr
        obtain ⟨q0, q1, q2, q3, q4, q5, q6, q7⟩ := hGr.t.cells
        have hlr := hGr.t.lt
        have HFU := Lib.hid hfu
        have HHD : Hid ((tt.headD 0).toNat < kk.s.c) := HFT2.out.head htt
        have HF := Lib.hid (M.Kn.longF_spec HKV2.out htt HHD.out)
        have HCUT := Lib.hid (M.Kn.cut_eq HKV2.out htt HFT2.out)
        have hwl1 : 1 ≤ (kk.longW tt).length := HF.out.2.2.2.1
        have hyl : yy.size = tt.length := by rw [bs_size, HTT.out]
        have hwl2 : (kk.longW tt).length ≤ yy.size := by have h9 := HF.out.2.2.2.2.1; omega
        have HGG := Lib.hid (M.Kn.greedy_gG kk htt)
        have HNE := Lib.hid htt
        obtain ⟨wl, hwl⟩ : ∃ wl, (kk.longW tt).length = wl := ⟨_, rfl⟩
        rw [hwl] at hwl1 hwl2
        have HWL := Lib.hid hwl
        obtain ⟨lf, hlf⟩ : ∃ lf, kk.longF tt = lf := ⟨_, rfl⟩
        have HLF := Lib.hid hlf
        have hlfl : lf ≤ 4000 := by
          have h1 := HKV2.out.greatest_le; have := HKV2.out.s.l1024; have := HKV2.out.s.c256
          have h2 := HF.out.2.1
          rw [HLF.out] at h2
          unfold M.Kn.follows at h2; omega
        have HFO : Hid (kk.follows lf) := by have h2 := HF.out.2.1; rw [HLF.out] at h2; exact h2
        obtain ⟨yr, hyr⟩ : ∃ yr, yy.extract wl yy.size = yr := ⟨_, rfl⟩
        have hbyr : bs yr = tt.drop wl := by rw [← hyr, bs_extract, HTT.out]; apply List.take_of_length_le; rw [List.length_drop]; omega
        have HYR := Lib.hid hbyr
        have hyrz : yr.size + wl = yy.size := by rw [← hyr, ByteArray.size_extract]; omega
        have hyz2 : yy.size ≤ 2000 := by omega
        have hyrz2 : yr.size < yy.size := by omega
        have hol2 : ow.length + 1 + 2 * yr.size ≤ 2 * y.size + 1 := by omega
        have hol3 : ow.length ≤ 5000 := by omega
        clear htt hfu hwl hlf hyl hbyr hyrz
        go_wp2_with (first | (go_at_call 120; refine (v_isFull kk HKV.out A0 c0 _ false HFU.out).mono ?_; rintro e w' ⟨rfl, h1⟩; obtain ⟨hch1, hfh1⟩ := gcell h1; have hGa := hGr.up h1; have hga := hGa.t.lt) | (go_at_call 84; refine (v_longest kk HKV2.out (FW.of w) _ gt A0 c0 An cn Ai ci hGa.t tt HNE.out HHD.out yy HTT.out hyz2).mono ?_; rintro e w' ⟨rfl, h2⟩; rw [HWL.out, HLF.out]; have hGb := hGa.up h2; have hgb := hGb.t.lt) | (go_at_call 82; refine (v_follow_code kk HKV2.out _ _ gt A0 c0 An cn Ai ci hGb.guest lf HFO.out).mono ?_; rintro e w' ⟨rfl, A2', c2', An2', cn2', Ai2', ci2', hTc⟩; have hGc := hGb.step hTc; have hgc := hGc.t.lt; have hgw : w.heap.size ≤ w'.heap.size := hGc.t.fr.size) | (at_builtin; refine app_int rfl (.tmp 47) (.tmp 49) rfl w.heap.size _ _ _ rfl (hGc.o.alloc _) ⟨_, 0, none⟩ 1 1 [_] rfl rfl (cell_one_new _ _ _) (by simp [Value.oneCell']) (by omega) (by simp; omega) ?_; intro v1 w1 hownw1 hgw1 hatw1; have hGd := (hGc.up ((G.refl _).alloc _)).app hgw1 hownw1 hatw1) | fail)
        go_roundw
        case rel =>
          refine ⟨kk.after lf, tt.drop wl, yr, ow ++ [lf], A2', c2', An2', cn2', Ai2', ci2', rfl, HYR.out, hGd, HKV2.out.after HFO.out, HKS.out, HFT2.out.drop _, ?_, by simp; omega⟩
          have e := HGG.out
          rw [HLF.out, HCUT.out, HWL.out] at e
          show _ = _
          rw [HC.out, e]; simp
        case measure => exact hyrz2
      | true =>
        have HC : Hid (M.Kn.greedyCodes k d = (ow ++ [k.s.c]) ++ (M.Kn.greedy kk.cleared tt ++ [k.s.e])) := by show _ = _; rw [HCO.out, M.Kn.gG_full htt hfu, HKS.out]; simp
        have HKV2 : Hid kk.cleared.V := HKV.out.cleared
        have HFT2 : Hid (M.Kn.fits kk.cleared.s.c tt) := HFT.out
        have HCE : Hid (k.s.c = kk.s.c) := by show _ = _; rw [HKS.out]
        have hG1 := hGr.t.fr
        obtain ⟨q0, q1, q2, q3, q4, q5, q6, q7⟩ := hGr.t.cells
        have hlr := hGr.t.lt
        have HFU := Lib.hid hfu
        have HHD : Hid ((tt.headD 0).toNat < kk.cleared.s.c) := HFT2.out.head htt
        have HF := Lib.hid (M.Kn.longF_spec HKV2.out htt HHD.out)
        have HCUT := Lib.hid (M.Kn.cut_eq HKV2.out htt HFT2.out)
        have hwl1 : 1 ≤ (kk.cleared.longW tt).length := HF.out.2.2.2.1
        have hyl : yy.size = tt.length := by rw [bs_size, HTT.out]
        have hwl2 : (kk.cleared.longW tt).length ≤ yy.size := by have h9 := HF.out.2.2.2.2.1; omega
        have HGG := Lib.hid (M.Kn.greedy_gG kk.cleared htt)
        have HNE := Lib.hid htt
        obtain ⟨wl, hwl⟩ : ∃ wl, (kk.cleared.longW tt).length = wl := ⟨_, rfl⟩
        rw [hwl] at hwl1 hwl2
        have HWL := Lib.hid hwl
        obtain ⟨lf, hlf⟩ : ∃ lf, kk.cleared.longF tt = lf := ⟨_, rfl⟩
        have HLF := Lib.hid hlf
        have hlfl : lf ≤ 4000 := by
          have h1 := HKV2.out.greatest_le; have := HKV2.out.s.l1024; have := HKV2.out.s.c256
          have h2 := HF.out.2.1
          rw [HLF.out] at h2
          unfold M.Kn.follows at h2; omega
        have HFO : Hid (kk.cleared.follows lf) := by have h2 := HF.out.2.1; rw [HLF.out] at h2; exact h2
        obtain ⟨yr, hyr⟩ : ∃ yr, yy.extract wl yy.size = yr := ⟨_, rfl⟩
        have hbyr : bs yr = tt.drop wl := by rw [← hyr, bs_extract, HTT.out]; apply List.take_of_length_le; rw [List.length_drop]; omega
        have HYR := Lib.hid hbyr
        have hyrz : yr.size + wl = yy.size := by rw [← hyr, ByteArray.size_extract]; omega
        have hyz2 : yy.size ≤ 2000 := by omega
        have hyrz2 : yr.size < yy.size := by omega
        have hol2 : ow.length + 2 + 2 * yr.size ≤ 2 * y.size + 1 := by omega
        have hol4 : (ow ++ [k.s.c]).length ≤ 5000 := by simp; omega
        have hol3 : ow.length ≤ 5000 := by omega
        clear htt hfu hwl hlf hyl hbyr hyrz
        go_wp2_with (first | (go_at_call 120; refine (v_isFull kk HKV.out A0 c0 _ true HFU.out).mono ?_; rintro e w' ⟨rfl, h1⟩; obtain ⟨hch1, hfh1⟩ := gcell h1; have hGa0 := hGr.up h1; have hga0 := hGa0.t.lt) | (go_at_call 82; with_reducible refine (v_follow_clear2 kk HKV.out _ _ gt A0 c0 An cn Ai ci hGa0.guest k.s.c HCE.out).mono ?_; rintro e w' ⟨rfl, B0, b0, Bn, bn, Bi, bi, hTb⟩; have hGa1 := hGa0.step hTb; have hga1 := hGa1.t.lt; have hgw1 : w.heap.size ≤ w'.heap.size := hGa1.t.fr.size) | (at_builtin; refine app_int rfl (.tmp 34) (.tmp 36) rfl w.heap.size _ _ _ rfl (hGa1.o.alloc _) ⟨_, 0, none⟩ 1 1 [_] rfl rfl (cell_one_new _ _ _) (by simp [Value.oneCell']) (by omega) (by simp; omega) ?_; intro v0 w0 hownw0 hgw0 hatw0; have hGa := (hGa1.up ((G.refl _).alloc _)).app hgw0 hownw0 hatw0; have hga := hGa.t.lt) | (go_at_call 84; refine (v_longest kk.cleared HKV2.out (FW.of w) _ gt B0 b0 Bn bn Bi bi hGa.t tt HNE.out HHD.out yy HTT.out hyz2).mono ?_; rintro e w' ⟨rfl, h2⟩; rw [HWL.out, HLF.out]; have hGb := hGa.up h2; have hgb := hGb.t.lt) | (go_at_call 82; refine (v_follow_code kk.cleared HKV2.out _ _ gt B0 b0 Bn bn Bi bi hGb.guest lf HFO.out).mono ?_; rintro e w' ⟨rfl, A2', c2', An2', cn2', Ai2', ci2', hTc⟩; have hGc := hGb.step hTc; have hgc := hGc.t.lt; have hgw : w.heap.size ≤ w'.heap.size := hGc.t.fr.size) | (at_builtin; refine app_int rfl (.tmp 47) (.tmp 49) rfl w.heap.size _ _ _ rfl (hGc.o.alloc _) ⟨_, 0, none⟩ 1 1 [_] rfl rfl (cell_one_new _ _ _) (by simp [Value.oneCell']) (by omega) (by simp; omega) ?_; intro v9 w9 hownw9 hgw9 hatw9; have hGd := (hGc.up ((G.refl _).alloc _)).app hgw9 hownw9 hatw9) | fail)
        go_roundw
        case rel =>
          refine ⟨kk.cleared.after lf, tt.drop wl, yr, (ow ++ [k.s.c]) ++ [lf], A2', c2', An2', cn2', Ai2', ci2', rfl, HYR.out, hGd, HKV2.out.after HFO.out, HKS.out, HFT2.out.drop _, ?_, by simp; omega⟩
          have e := HGG.out
          rw [HLF.out, HCUT.out, HWL.out] at e
          show _ = _
          rw [HC.out, e]; simp
        case measure => exact hyrz2
end
end Go.Proofs.YtlaijbkonapdbaaGreat

namespace Go.Proofs.YtlaijbkonapdbaaGreat
open Go.RowKit
attribute [local go_sem] grow_cell grow_frozen conv_one

theorem v_Clip (base n c : Nat) (A : Option Addr) (xs : List Value) (w : World) (ho : w.ownsRow base 3 1 (.slice A n c) n xs) (hn : 1 ≤ n) :
    Calls Tryz.prog 103 #[.slice A n c] w fun e w' => e = .returned (.slice A n n) ∧ w = w' := by
  have hcap := own_cap ho
  obtain ⟨g, rfl⟩ : ∃ g, A = some ⟨g, 0, none⟩ := by
    rcases ho.2 with ⟨_, h⟩ | ⟨g, cap, cur, hv, _⟩
    · omega
    · exact ⟨g, (Value.slice.inj hv).1⟩
  have b1 : (0 : Int) ≤ (n : Int) := by omega
  have b2 : (n : Int) ≤ (c : Int) := by omega
  have b3 : (n : Int) ≤ (n : Int) := by omega
  clear ho
  go_enter Tryz.func103, Tryz.ntmps103
  go_wp2
  go_ret
  exact ⟨rfl, rfl⟩
section
variable (k : M.Kn) (hk : k.V) (A : Option Addr) (c : Nat) (w : World) (hr : Rds w 2 A k.ps.length (cP k.ps)) (hA : ∀ a, A = some a → a.block < w.heap.size)
include hk hr hA
set_option maxHeartbeats 1000000 in
theorem v_GreedyCodes (d : M.Bytes) (hd : M.Kn.fits k.s.c d) (y : ByteArray) (hy : bs y = d) (hyz : y.size ≤ 2000) :
    Calls Tryz.prog 86 #[knV k A c, .string y] w fun e w' => (∃ A', e = .returned (.tuple #[.slice A' (M.Kn.greedyCodes k d).length (M.Kn.greedyCodes k d).length, .bool true]) ∧ Rds w' 1 A' (M.Kn.greedyCodes k d).length (cI (M.Kn.greedyCodes k d))) ∧ G w w' := by
  have HY := Lib.hid hy
  have HD := Lib.hid hd
  have HR := Lib.hid hr
  have HA := Lib.hid hA
  have HF : Hid (decide (y.size ≤ 2000 ∧ M.Kn.fits k.s.c d) = true) := decide_eq_true ⟨hyz, hd⟩
  have hgl : 1 ≤ (M.Kn.greedyCodes k d).length := by simp [M.Kn.greedyCodes]
  obtain ⟨cs, hcs⟩ : ∃ cs, M.Kn.greedyCodes k d = cs := ⟨_, rfl⟩
  rw [hcs] at hgl ⊢
  have HC := Lib.hid hcs
  clear hy hd hr hA hcs
  go_enter Tryz.func86, Tryz.ntmps86
  go_wp2_with (first | (go_at_call 62; refine (v_KnownValid_impl k hk A c _ (HR.out.g (by repeat' (first | (with_reducible exact G.refl _) | (with_reducible assumption) | (with_reducible refine G.alloc ?_ _) | (with_reducible refine G.drew ?_) | (with_reducible refine G.drewN ?_ _) | (refine G.setCell ?_ (by first | (simp <;> done) | (simp <;> omega)) _) | (with_reducible refine G.trans ?_ (by with_reducible assumption)))))).mono ?_; rintro e w' ⟨rfl, h1⟩; obtain ⟨hch1, hfh1⟩ := gcell h1; try (have hzh1 : w.heap.size < w'.heap.size := by have := h1.size; (try simp at this); omega); try (have hyh1 : w.heap.size + 1 < w'.heap.size := by have := h1.size; (try simp at this); omega)) | (go_at_call 63; refine (v_DataFits_impl k.s hk.s d y HY.out (by omega) true _ HF.out).mono ?_; rintro e w' ⟨rfl, h2⟩; obtain ⟨hch2, hfh2⟩ := gcell h2; try (have hzh2 : w.heap.size < w'.heap.size := by have := h2.size; (try simp at this); omega); try (have hyh2 : w.heap.size + 1 < w'.heap.size := by have := h2.size; (try simp at this); omega)) | (go_at_call 104; refine (v_greedy k hk A c _ (HR.out.g (by repeat' (first | (with_reducible exact G.refl _) | (with_reducible assumption) | (with_reducible refine G.alloc ?_ _) | (with_reducible refine G.drew ?_) | (with_reducible refine G.drewN ?_ _) | (refine G.setCell ?_ (by first | (simp <;> done) | (simp <;> omega)) _) | (with_reducible refine G.trans ?_ (by with_reducible assumption))))) (fun a ha => by have := HA.out a ha; have := h1.size; have := h2.size; simp at *; omega) d HD.out y HY.out hyz).mono ?_; rintro e w' ⟨⟨A1, c1, rfl, hR1⟩, h3⟩; rw [HC.out] at hR1 ⊢) | (go_at_call 103; refine (v_Clip _ _ _ _ _ _ hR1 hgl).mono ?_; rintro e w' ⟨rfl, rfl⟩) | fail)
  go_ret2
  exact ⟨⟨A1, rfl, Rds.own hR1⟩, (by repeat' (first | (with_reducible exact G.refl _) | (with_reducible assumption) | (with_reducible refine G.alloc ?_ _) | (with_reducible refine G.drew ?_) | (with_reducible refine G.drewN ?_ _) | (refine G.setCell ?_ (by first | (simp <;> done) | (simp <;> omega)) _) | (with_reducible refine G.trans ?_ (by with_reducible assumption))))⟩
set_option maxHeartbeats 1000000 in
theorem v_GreedyCodes_no (d : M.Bytes) (hd : ¬ M.Kn.fits k.s.c d) (y : ByteArray) (hy : bs y = d) (hyz : y.size ≤ 100000000) :
    Calls Tryz.prog 86 #[knV k A c, .string y] w fun e w' => e = .returned (.tuple #[.slice none 0 0, .bool false]) ∧ G w w' := by
  have HY := Lib.hid hy
  have HR := Lib.hid hr
  have HF : Hid (decide (y.size ≤ 2000 ∧ M.Kn.fits k.s.c d) = false) := decide_eq_false (fun h => hd h.2)
  clear hy hd hr hA
  go_enter Tryz.func86, Tryz.ntmps86
  go_wp2_with (first | (go_at_call 62; refine (v_KnownValid_impl k hk A c _ (HR.out.g (by repeat' (first | (with_reducible exact G.refl _) | (with_reducible assumption) | (with_reducible refine G.alloc ?_ _) | (with_reducible refine G.drew ?_) | (with_reducible refine G.drewN ?_ _) | (refine G.setCell ?_ (by first | (simp <;> done) | (simp <;> omega)) _) | (with_reducible refine G.trans ?_ (by with_reducible assumption)))))).mono ?_; rintro e w' ⟨rfl, h1⟩; obtain ⟨hch1, hfh1⟩ := gcell h1; try (have hzh1 : w.heap.size < w'.heap.size := by have := h1.size; (try simp at this); omega); try (have hyh1 : w.heap.size + 1 < w'.heap.size := by have := h1.size; (try simp at this); omega)) | (go_at_call 63; refine (v_DataFits_impl k.s hk.s d y HY.out (by omega) false _ HF.out).mono ?_; rintro e w' ⟨rfl, h2⟩; obtain ⟨hch2, hfh2⟩ := gcell h2; try (have hzh2 : w.heap.size < w'.heap.size := by have := h2.size; (try simp at this); omega); try (have hyh2 : w.heap.size + 1 < w'.heap.size := by have := h2.size; (try simp at this); omega)) | fail)
  go_ret2
  exact ⟨rfl, (by repeat' (first | (with_reducible exact G.refl _) | (with_reducible assumption) | (with_reducible refine G.alloc ?_ _) | (with_reducible refine G.drew ?_) | (with_reducible refine G.drewN ?_ _) | (refine G.setCell ?_ (by first | (simp <;> done) | (simp <;> omega)) _) | (with_reducible refine G.trans ?_ (by with_reducible assumption))))⟩
set_option maxHeartbeats 1000000 in
theorem v_Compress_impl (d : M.Bytes) (hdl : d.length ≤ 1000) (y : ByteArray) (hy : bs y = d) (r : Bool) (hr2 : decide (M.Kn.fits k.s.c d) = r) :
    Calls Tryz.prog 66 #[knV k A c, .string y] w fun e w' => e = .returned (.tuple #[if r then S (M.Kn.compress k d) else .string ⟨#[]⟩, .bool r]) ∧ G w w' := by
  have HY := Lib.hid hy
  have HR := Lib.hid hr
  have HA := Lib.hid hA
  have hyz : y.size ≤ 2000 := by rw [bs_size, hy]; omega
  cases r
  · have HF : Hid (¬ M.Kn.fits k.s.c d) := of_decide_eq_false hr2
    clear hy hr hA hr2
    go_enter Tryz.func66, Tryz.ntmps66
    go_wp2_with (first | (go_at_call 86; refine (v_GreedyCodes_no k hk A c _ (HR.out.g (by repeat' (first | (with_reducible exact G.refl _) | (with_reducible assumption) | (with_reducible refine G.alloc ?_ _) | (with_reducible refine G.drew ?_) | (with_reducible refine G.drewN ?_ _) | (refine G.setCell ?_ (by first | (simp <;> done) | (simp <;> omega)) _) | (with_reducible refine G.trans ?_ (by with_reducible assumption))))) (fun a ha => by have := HA.out a ha; simp; omega) d HF.out y HY.out (by omega)).mono ?_; rintro e w' ⟨rfl, h3⟩; obtain ⟨hch3, hfh3⟩ := gcell h3) | fail)
    go_ret2
    exact ⟨rfl, (by repeat' (first | (with_reducible exact G.refl _) | (with_reducible assumption) | (with_reducible refine G.alloc ?_ _) | (with_reducible refine G.drew ?_) | (with_reducible refine G.drewN ?_ _) | (refine G.setCell ?_ (by first | (simp <;> done) | (simp <;> omega)) _) | (with_reducible refine G.trans ?_ (by with_reducible assumption))))⟩
  · have hd : M.Kn.fits k.s.c d := of_decide_eq_true hr2
    have HD := Lib.hid hd
    have HG := Lib.hid (M.Kn.greedyCodes_ok hk hd)
    have HL : Hid ((M.Kn.greedyCodes k d).length ≤ 3100) := by have := M.Kn.greedyCodes_len k d; show _ ≤ _; omega
    have HE : Hid ((M.Kn.enc k (M.Kn.greedyCodes k d)).length ≤ 32000) := by have := M.Kn.compress_len hk hd; show _ ≤ _; omega
    have HC : Hid (M.packB k.s.ord (M.Kn.enc k (M.Kn.greedyCodes k d)) = M.Kn.compress k d) := rfl
    clear hy hd hr hA hr2
    go_enter Tryz.func66, Tryz.ntmps66
    go_wp2_with (first | (go_at_call 86; refine (v_GreedyCodes k hk A c _ (HR.out.g (by repeat' (first | (with_reducible exact G.refl _) | (with_reducible assumption) | (with_reducible refine G.alloc ?_ _) | (with_reducible refine G.drew ?_) | (with_reducible refine G.drewN ?_ _) | (refine G.setCell ?_ (by first | (simp <;> done) | (simp <;> omega)) _) | (with_reducible refine G.trans ?_ (by with_reducible assumption))))) (fun a ha => by have := HA.out a ha; simp; omega) d HD.out y HY.out hyz).mono ?_; rintro e w' ⟨⟨A1, rfl, hR1⟩, h3⟩; obtain ⟨hch3, hfh3⟩ := gcell h3; have hz3 := h3.size) | (go_at_call 87; refine (v_PackCodes k hk A c _ (HR.out.g (by repeat' (first | (with_reducible exact G.refl _) | (with_reducible assumption) | (with_reducible refine G.alloc ?_ _) | (with_reducible refine G.drew ?_) | (with_reducible refine G.drewN ?_ _) | (refine G.setCell ?_ (by first | (simp <;> done) | (simp <;> omega)) _) | (with_reducible refine G.trans ?_ (by with_reducible assumption))))) (fun a ha => by have := HA.out a ha; simp at hz3; omega) (M.Kn.greedyCodes k d) HL.out (M.Kn.okW_of_okC _ _ HG.out.1) (by rw [HG.out.2]; omega) HE.out A1 _ hR1).mono ?_; rintro e w' ⟨rfl, h5⟩; rw [HC.out]) | fail)
    go_ret2
    exact ⟨rfl, (by repeat' (first | (with_reducible exact G.refl _) | (with_reducible assumption) | (with_reducible refine G.alloc ?_ _) | (with_reducible refine G.drew ?_) | (with_reducible refine G.drewN ?_ _) | (refine G.setCell ?_ (by first | (simp <;> done) | (simp <;> omega)) _) | (with_reducible refine G.trans ?_ (by with_reducible assumption))))⟩
end
end Go.Proofs.YtlaijbkonapdbaaGreat
