/-
  FnExactAppendDataSaid is proved: for every input FnExactAppendData returns true, and each argument reads afterwards as it read before; no conditions. Part 16 of 25.
-/
import Derived.Test.YtlaijbkonapdbaaGreatA09
import Derived.Test.YtlaijbkonapdbaaGreatA13
import Derived.Test.YtlaijbkonapdbaaGreatA15

set_option linter.all false

namespace Go.Proofs.YtlaijbkonapdbaaGreat
open Go.RowKit
attribute [local go_sem] grow_cell grow_frozen conv_one
section
variable (s : M.St) (hs : s.Ok) (w : World)
include hs
set_option maxRecDepth 8000 in
set_option maxHeartbeats 1000000 in
theorem v_StartWith_impl (d : M.Bytes) (b : ByteArray) (hb : bs b = d) (hz : b.size ≤ 100000000) (hd : b.size ≤ 2000 ∧ M.Kn.fits s.c d) :
    Calls Tryz.prog 26 #[stV s, .string b] w fun e w' => (∃ A' c', e = .returned (.tuple #[knV (M.Kn.learnK (M.start s) d) A' c', .bool true]) ∧ w'.ownsRow w.heap.size 98 2 (.slice A' (M.Kn.learnK (M.start s) d).ps.length c') (M.Kn.learnK (M.start s) d).ps.length (cP (M.Kn.learnK (M.start s) d).ps)) ∧ G w w' := by
  have HB := Lib.hid hb
  have HD := Lib.hid hd
  obtain ⟨k2, hk2⟩ : ∃ k2, M.Kn.learnK (M.start s) d = k2 := ⟨_, rfl⟩
  rw [hk2]
  have HK := Lib.hid hk2
  clear hb hd hk2
  go_enter Tryz.func26, Tryz.ntmps26
  go_wp2_with (first | (go_at_call 43; refine (v_Start_impl s hs _).mono ?_; rintro e w' ⟨rfl, h1⟩; obtain ⟨hch1, hfh1⟩ := gcell h1; try (have hzh1 : w.heap.size < w'.heap.size := by have := h1.size; (try simp at this); omega); try (have hyh1 : w.heap.size + 1 < w'.heap.size := by have := h1.size; (try simp at this); omega)) | (go_at_call 44; refine (v_LearnKnown_impl (M.start s) (M.start_V hs) none 0 _ (Rds.none _) (fun a h => by simp at h) d b HB.out hz HD.out).mono ?_; rintro e w' ⟨⟨A1, c1, rfl, hR1⟩, h3⟩; rw [HK.out] at hR1 ⊢; obtain ⟨hch3, hfh3⟩ := gcell h3) | fail)
  refine bodyPost_ret (results_cell_tmp1 rfl _ _ (w.heap.size + 1) [.int .i64 k2.s.ord, .int .i64 k2.s.lit, .int .i64 k2.s.most, .slice A1 (k2.ps.length) c1, .int .i64 k2.base, .int .i64 k2.last] _ rfl (cells6 (by go_cell) (by go_cell) (by go_cell) (by go_cell) (by go_cell) (by go_cell)) Tryz.underlying40 rfl (by kernel_rfl)) rfl ?_
  refine ⟨⟨A1, c1, rfl, own_mono (own_set6 hR1 (fun e => by have := own_base hR1 e; have := h1.size; simp at *; omega)) (by have := h1.size; simp at *; omega)⟩, (by repeat' (first | (with_reducible exact G.refl _) | (with_reducible assumption) | (with_reducible refine G.alloc ?_ _) | (with_reducible refine G.drew ?_) | (with_reducible refine G.drewN ?_ _) | (refine G.setCell ?_ (by first | (simp <;> done) | (simp <;> omega)) _) | (with_reducible refine G.trans ?_ (by with_reducible assumption))))⟩
end
end Go.Proofs.YtlaijbkonapdbaaGreat

namespace Go.Proofs.YtlaijbkonapdbaaGreat
open Go.RowKit
attribute [local go_sem] grow_cell grow_frozen conv_one

section
variable (k : M.Kn) (hk : k.V) (A : Option Addr) (c : Nat) (w : World) (hr : Rds w 2 A k.ps.length (cP k.ps))
include hk hr
set_option maxRecDepth 8000 in
set_option maxHeartbeats 2000000 in
theorem v_wordText_has (code : Nat) (hc : M.has k.s.c k.ps.length code) : Calls Tryz.prog 124 #[knV k A c, .int .i64 code] w fun e w' => e = .returned (S (k.W code)) ∧ G w w' := by
  have hs := hk.s
  have hn : k.ps.length ≤ 1024 := by have h1 := hk.nxt_le; have h2 := hk.s.l1024; unfold M.Kn.nxt at h1; omega
  have h256 := hs.c256
  have he1 : k.s.e ≤ k.s.c + 1 := by rw [M.St.e_eq]; omega
  have he2 : k.s.c + 1 ≤ k.s.e := by rw [M.St.e_eq]; omega
  have hcm : code ≤ 2000 := by unfold M.has at hc; omega
  have hne : ((code : Int) == (k.nxt : Int)) = false := by unfold M.has at hc; unfold M.Kn.nxt; simp; omega
  have HC := Lib.hid hc
  have HR0 := Lib.hid hr
  clear hc hr
  go_enter Tryz.func124, Tryz.ntmps124
  go_wp2_with (first | (go_at_call 100; refine (v_nextWord k hk A c _).mono ?_; rintro e w' ⟨rfl, h1⟩; obtain ⟨hch1, hfh1⟩ := gcell h1; have hs1 := h1.size) | (go_at_call 78; refine (v_EndCode k.s hs _).mono ?_; rintro e w' ⟨rfl, h2⟩; obtain ⟨hch2, hfh2⟩ := gcell h2; have hs2 := h2.size) | fail)
  have hK : KBox w' w.heap.size k A c := (KBox.new w k A c).g (by repeat' (first | (with_reducible exact G.refl _) | (with_reducible assumption) | (with_reducible refine G.alloc ?_ _) | (with_reducible refine G.drew ?_) | (with_reducible refine G.drewN ?_ _) | (refine G.setCell ?_ (by first | (simp <;> done) | (simp <;> omega)) _) | (with_reducible refine G.trans ?_ (by with_reducible assumption))))
  have hG : G w w' := (by repeat' (first | (with_reducible exact G.refl _) | (with_reducible assumption) | (with_reducible refine G.alloc ?_ _) | (with_reducible refine G.drew ?_) | (with_reducible refine G.drewN ?_ _) | (refine G.setCell ?_ (by first | (simp <;> done) | (simp <;> omega)) _) | (with_reducible refine G.trans ?_ (by with_reducible assumption))))
  have hR := HR0.out.g hG
  have HRW := Lib.hid hR
  have HKW := Lib.hid hK
  have hWs := hK.lt
  clear hR hK hch1 hfh1 hch2 hfh2 h1 h2 hs1 hs2
  go_loopw [1, 7] (fun x v wr => ∃ (m : Nat) (o : M.Bytes), x = .int .i64 m ∧ m ≤ 2000 ∧ Hid (M.has k.s.c k.ps.length m) ∧ Hid (k.W code = k.W m ++ o.reverse) ∧ o.length + m ≤ 3000 ∧ wr.ownsRow w'.heap.size 5 1 v o.length (cB o) ∧ GR w' wr none ∧ VR w' none v) (fun x _ _ => (intOf x).toNat)
  case atStart => exact ⟨code, [], rfl, by omega, HC.out, by simp [Hid], by simp; omega, World.ownsRow_nil _ _ _ _, GR.refl _ _, VR.nil _ _⟩
  case round =>
    obtain ⟨m, o, rfl, hm, HM, HW, hol, hown, hG2, hV⟩ := hrel
    obtain ⟨k9, k0, k1, k2, k3, k4, k5⟩ := HKW.out.g hG2.toG
    by_cases hlt : k.s.e < m
    · obtain ⟨i, rfl⟩ : ∃ i, m = k.s.c + 2 + i := ⟨m - (k.s.c + 2), by omega⟩
      have hi : i < k.ps.length := by have := HM.out; unfold M.has at this; omega
      obtain ⟨g, hA, hg, hcell⟩ := (HRW.out.g hG2.toG).at_ (by omega)
      obtain ⟨q1, q2⟩ := cP_get k.ps i hi
      have d1 := hcell _ _ q1
      have d2 := hcell _ _ q2
      have hp1 := Lib.hid (hk.pv.pre i hi)
      have hp2 := hk.pv.byt i hi
      have HWP := Lib.hid (M.wd_pair k.s.c k.ps hk.pv i hi)
      generalize hpp : k.ps[i] = p at hp1 hp2 q1 q2 d1 d2 HWP
      subst hA
      have u1 : IntKind.i64.wrap (((k.s.c + 2 + i : Nat) : Int) - k.s.e) = ((k.s.c + 2 + i : Nat) : Int) - k.s.e := by go_unwrap
      have u2 : IntKind.i64.wrap (((k.s.c + 2 + i : Nat) : Int) - k.s.e - 1) = i := by have := M.St.e_eq k.s; rw [IntWalk.i64_in _ ⟨by omega, by omega⟩]; omega
      have u3 : ((k.s.c + 2 + i : Nat) : Int) - k.s.e - 1 = i := by have := M.St.e_eq k.s; omega
      have b1 : (0 : Int) ≤ (i : Int) := by omega
      have b2 : (i : Int) < (k.ps.length : Int) := by omega
      have hbx : k.s.c ≤ 256 := h256
      have HPP := Lib.hid hpp
      clear q1 q2 hpp hcell
      generalize hmm : k.s.c + 2 + i = m at *
      have HMM := Lib.hid hmm
      clear hmm
      have HP2 := Lib.hid (show IntKind.u8.wrap (p.2 : Int) = ((UInt8.ofNat p.2).toNat : Int) by rw [IntWalk.u8_in _ ⟨by omega, by omega⟩]; simp; omega)
      have hsz := hG2.size
      have hne2 : u7.ownBlock ≠ some wr.heap.size := fun h => by have := own_lt hown h; omega
      go_upto_region 8 with fail
      refine wp_gen (fun wc => G wr wc ∧ wr.heap.size < wc.heap.size ∧ wc.cell? ⟨wr.heap.size, 0, none⟩ = some (.int .i64 p.1) ∧ wc.cell? ⟨wr.heap.size, 1, none⟩ = some (.int .i64 p.2)) ⟨(by repeat' (first | (with_reducible exact G.refl _) | (with_reducible assumption) | (with_reducible refine G.alloc ?_ _) | (with_reducible refine G.drew ?_) | (with_reducible refine G.drewN ?_ _) | (refine G.setCell ?_ (by first | (simp <;> done) | (simp <;> omega)) _) | (with_reducible refine G.trans ?_ (by with_reducible assumption)))), by simp, by go_cell, by go_cell⟩ ?_
      rintro wc ⟨hG3, hbx3, e0, e1⟩
      have hown3 := own_g hown hG3
      go_wp2_with ((at_builtin; refine app_u8 rfl (.tmp 35) (.tmp 39) rfl w'.heap.size _ _ _ rfl (hown3.alloc _) ⟨_, 0, none⟩ 1 1 [_] rfl rfl (cell_one_new _ _ _) (by simp [Value.oneCell']) (by omega) (by simp; omega) ?_; intro v1 w1 hownw1 hgw1 hatw1; have f0 : w1.cell? ⟨wr.heap.size, 0, none⟩ = some (.int .i64 p.1) := (GR.cell hgw1 (g := wr.heap.size) (by simp; omega) hne2 0).trans (by go_cell)))
      go_roundw
      case rel =>
        have hmp : p.1 < m := by have h1 := hp1.out; have := HMM.out; unfold M.has at h1; omega
        refine ⟨p.1, o ++ [UInt8.ofNat p.2], rfl, by omega, ?_, ?_, by simp; omega, ?_, ((hG2.g (hG3.alloc _)).step hV hgw1), VR.step (by simp; omega) hV hatw1⟩
        · have := hp1.out; show M.has _ _ _; unfold M.has at *; omega
        · show _ = _
          have e := HWP.out
          rw [HW.out]
          show M.wd _ _ _ ++ _ = M.wd _ _ _ ++ _
          rw [e]; simp
        · have e := HP2.out
          rw [IntWalk.u8_in _ ⟨by omega, by omega⟩] at e
          rw [cB_snoc, List.length_append, ← e]
          exact hownw1
      case measure => have h1 := hp1.out; have := HMM.out; unfold M.has at h1; simp [intOf]; omega
    · have hmc : m < k.s.c := by have h1 := HM.out; unfold M.has at h1; omega
      have hsz := hG2.size
      have hm8 : IntKind.u8.wrap (m : Int) = m := IntWalk.u8_in _ ⟨by omega, by omega⟩
      have H8 := Lib.hid hm8
      clear hm8
      go_wp2_with (first | (at_builtin; refine app_u8 rfl (.tmp 43) (.tmp 46) rfl w'.heap.size _ _ _ rfl (hown.alloc _) ⟨_, 0, none⟩ 1 1 [_] rfl rfl (cell_one_new _ _ _) (by simp [Value.oneCell']) (by omega) (by simp; omega) ?_; intro v1 w1 hownw1 hgw1 hatw1; have hG4 : GR w' w1 none := (hG2.g ((G.refl _).alloc _)).step hV hgw1; have hV4 : VR w' none v1 := VR.step (by simp; omega) hV hatw1; obtain ⟨A1, c1, rfl⟩ := own_form hownw1) | (go_at_call 139; refine (v_Reverse w'.heap.size A1 (o.length + 1) c1 (by omega) (o ++ [UInt8.ofNat m]) _ ?rv).mono ?_; (case rv => (rw [cB_snoc]; have e : ((UInt8.ofNat m).toNat : Int) = m := (by simp; omega); rw [e]; exact hownw1)); rintro e w2 ⟨rfl, hown2, hg2⟩; have hconv := conv_own _ _ _ _ _ _ hown2) | fail)
      go_ret
      have HF : Hid (k.W code = (o ++ [UInt8.ofNat m]).reverse) := by
        show _ = _
        rw [HW.out, List.reverse_append]
        show M.wd _ _ _ ++ _ = _
        rw [M.wd_lit _ _ _ hmc]; rfl
      exact ⟨by rw [HF.out, List.reverse_append]; rfl, hG.trans (hG4.step hV4 hg2).toG⟩
theorem v_wordText_hasI (x : Int) (code : Nat) (hx : x = code) (hc : M.has k.s.c k.ps.length code) : Calls Tryz.prog 124 #[knV k A c, .int .i64 x] w fun e w' => e = .returned (S (k.W code)) ∧ G w w' := by
  subst hx; exact v_wordText_has k hk A c w hr code hc
set_option maxRecDepth 8000 in
set_option maxHeartbeats 2000000 in
theorem v_wordText (code : Nat) (hc : k.follows code) : Calls Tryz.prog 124 #[knV k A c, .int .i64 code] w fun e w' => e = .returned (S (k.A code)) ∧ G w w' := by
  by_cases hn : code = k.nxt
  · rcases (hk.follows_iff code).1 hc with h | ⟨hg, _⟩
    · exfalso; unfold M.has at h; unfold M.Kn.nxt at hn; omega
    have hgl := hk.grows_last hg
    obtain ⟨l, hl⟩ : ∃ l : Nat, k.last = l := ⟨k.last.toNat, by omega⟩
    have hlt2 : k.last.toNat = l := by omega
    have hhas : M.has k.s.c k.ps.length l := by rw [← hlt2]; exact hgl.1
    have hnw := M.wd_ne k.s.c k.ps hk.pv l hhas
    obtain ⟨b, hb⟩ : ∃ b : ByteArray, bs b = k.W l := ⟨⟨(k.W l).toArray⟩, rfl⟩
    have HBS : Hid (S (k.W l) = .string b) := (bs_eq hb).symm
    have HA : Hid (k.A code = k.W l ++ (k.W l).take 1) := by show _ = _; unfold M.Kn.A; rw [if_pos hn, hlt2]
    have hps : k.ps.length ≤ 1024 := by have h1 := hk.nxt_le; have h2 := hk.s.l1024; unfold M.Kn.nxt at h1; omega
    have hbz : 1 ≤ b.size := by rw [bs_size, hb]; exact hnw.1
    have hbz2 : b.size ≤ 2000 := by rw [bs_size, hb]; have := hnw.2.1; unfold M.Kn.W; omega
    have HB := Lib.hid hb
    have HL := Lib.hid hl
    have HH := Lib.hid hhas
    have HR := Lib.hid hr
    have hne : ((code : Int) == (k.nxt : Int)) = true := by simp [hn]
    clear hn hc hgl hl hlt2 hhas hnw hb hr hg
    go_enter Tryz.func124, Tryz.ntmps124
    go_wp2_with (first | (go_at_call 100; refine (v_nextWord k hk A c _).mono ?_; rintro e w' ⟨rfl, h1⟩; obtain ⟨hch1, hfh1⟩ := gcell h1; have hs1 := h1.size) | (go_at_call 124; refine (v_wordText_hasI k hk A c _ (HR.out.g (by repeat' (first | (with_reducible exact G.refl _) | (with_reducible assumption) | (with_reducible refine G.alloc ?_ _) | (with_reducible refine G.drew ?_) | (with_reducible refine G.drewN ?_ _) | (refine G.setCell ?_ (by first | (simp <;> done) | (simp <;> omega)) _) | (with_reducible refine G.trans ?_ (by with_reducible assumption))))) _ l HL.out HH.out).mono ?_; rintro e w' ⟨rfl, h2⟩; obtain ⟨hch2, hfh2⟩ := gcell h2; rw [HBS.out]) | fail)
    go_ret
    refine ⟨?_, (by repeat' (first | (with_reducible exact G.refl _) | (with_reducible assumption) | (with_reducible refine G.alloc ?_ _) | (with_reducible refine G.drew ?_) | (with_reducible refine G.drewN ?_ _) | (refine G.setCell ?_ (by first | (simp <;> done) | (simp <;> omega)) _) | (with_reducible refine G.trans ?_ (by with_reducible assumption))))⟩
    refine congrArg _ (bs_eq ?_)
    rw [bs_append, bs_extract, HB.out, HA.out]; simp
  · have hh : M.has k.s.c k.ps.length code := by
      rcases (hk.follows_iff code).1 hc with h | ⟨_, h⟩
      · exact h
      · exact absurd h hn
    have e : k.A code = k.W code := by unfold M.Kn.A; rw [if_neg hn]
    rw [e]; exact v_wordText_has k hk A c w hr code hh
end
end Go.Proofs.YtlaijbkonapdbaaGreat

namespace Go.Proofs.YtlaijbkonapdbaaGreat
open Go.RowKit
attribute [local go_sem] grow_cell grow_frozen conv_one
theorem cf_advance : ∀ args w, (callFunc 123 args).run Tryz.prog w = .ok (.enter 123 args) w := by intro args w; go_simp
/-- what advance gives: its pairs are those of the argument, cut or with one more -/
def GivesA (k : M.Kn) (base : Nat) (v : Value) (w : World) (e : Ending) (w' : World) : Prop := ∃ A c, e = .returned (knV k A c) ∧ w'.ownsRow base 98 2 (.slice A k.ps.length c) k.ps.length (cP k.ps) ∧ GR w w' v.ownBlock ∧ VR w v.ownBlock (.slice A k.ps.length c)

theorem row6 {W : World} {b : Nat} {v0 v1 v2 v3 v4 v5 : Value} {t : TypeId} (h : W.heap[b]? = some (.cells #[v0, v1, v2, v3, v4, v5] t (0, 0))) : b < W.heap.size ∧ (∀ o, W.frozen? ⟨b, o, none⟩ = false) ∧ W.cell? ⟨b, 0, none⟩ = some v0 ∧ W.cell? ⟨b, 1, none⟩ = some v1 ∧ W.cell? ⟨b, 2, none⟩ = some v2 ∧ W.cell? ⟨b, 3, none⟩ = some v3 ∧ W.cell? ⟨b, 4, none⟩ = some v4 ∧ W.cell? ⟨b, 5, none⟩ = some v5 :=
  ⟨lt_of_block h, fun o => frozen_of_row W b o _ _ h, by rw [cell_of_row W b 0 _ _ _ h]; rfl, by rw [cell_of_row W b 1 _ _ _ h]; rfl, by rw [cell_of_row W b 2 _ _ _ h]; rfl, by rw [cell_of_row W b 3 _ _ _ h]; rfl, by rw [cell_of_row W b 4 _ _ _ h]; rfl, by rw [cell_of_row W b 5 _ _ _ h]; rfl⟩
/-- a new box with a Known, and an empty one behind it -/
theorem two6 (w W : World) (k : M.Kn) (A : Option Addr) (c : Nat) (h : G (((w.alloc (.cells #[.int .i64 k.s.ord, .int .i64 k.s.lit, .int .i64 k.s.most, .slice A k.ps.length c, .int .i64 k.base, .int .i64 k.last] 40))).alloc (.cells #[.int .i64 0, .int .i64 0, .int .i64 0, .slice none 0 0, .int .i64 0, .int .i64 0] 40)) W) : G w W ∧ W.heap[w.heap.size]? = some (.cells #[.int .i64 k.s.ord, .int .i64 k.s.lit, .int .i64 k.s.most, .slice A k.ps.length c, .int .i64 k.base, .int .i64 k.last] 40 (0, 0)) ∧ W.heap[w.heap.size + 1]? = some (.cells #[.int .i64 0, .int .i64 0, .int .i64 0, .slice none 0 0, .int .i64 0, .int .i64 0] 40 (0, 0)) :=
  ⟨((G.refl w).alloc _ |>.alloc _).trans h, (h.heap (by simp; omega)).trans (((G.refl (w.alloc (.cells #[.int .i64 k.s.ord, .int .i64 k.s.lit, .int .i64 k.s.most, .slice A k.ps.length c, .int .i64 k.base, .int .i64 k.last] 40))).alloc _).heap (k := w.heap.size) (by simp) |>.trans (alloc_at _ _ _ rfl)), (h.heap (by simp)).trans (alloc_at _ _ _ (by simp))⟩
theorem GR.set {a b : World} {r : Option Nat} (h : GR a b r) {p : Addr} (hp : a.heap.size ≤ p.block) (v : Value) : GR a (b.setCell p v) r := by
  have h' : a.grownBy b r := h
  exact ⟨h'.os, h'.tape, h'.output, by simpa using h'.size, fun i hi hne => (Below.heap_setCell b _ v i (by omega)).trans (h'.block i hi hne)⟩
theorem own_off {w : World} {base : Nat} {e : TypeId} {size n m c : Nat} {A : Option Addr} {xs : List Value} (h : w.ownsRow base e size (.slice A n c) n xs) {b : Nat} (hb : w.heap.size ≤ b) : (Value.slice A m c).ownBlock ≠ some b := by
  intro e2
  obtain ⟨a, ha, e3⟩ := ob_slice.1 e2
  have := own_lt h (ob_slice.2 ⟨a, ha, e3⟩)
  omega
section
variable (k : M.Kn) (hk : k.V) (A : Option Addr) (c base : Nat) (w : World) (ho : w.ownsRow base 98 2 (.slice A k.ps.length c) k.ps.length (cP k.ps)) (hbase : base ≤ w.heap.size)
include hk ho hbase
set_option maxRecDepth 8000 in
set_option maxHeartbeats 2000000 in
theorem v_advance_clear (x : Int) : Calls Tryz.prog 123 #[knV k A c, .int .i64 k.s.c, .int .u8 x] w fun e w' => GivesA k.cleared base (.slice A k.ps.length c) w e w' := by
  have hs := hk.s
  have h256 := hs.c256
  have hb := hk.base
  have hcap := own_cap ho
  have b1 : (0 : Int) ≤ (k.base : Int) := by omega
  have b2 : (k.base : Int) ≤ (c : Int) := by omega
  have HO := Lib.hid ho
  clear ho
  go_enter Tryz.func123, Tryz.ntmps123
  go_wp2_with (first | (go_at_call 80; refine (v_ClearCode k.s hs _).mono ?_; rintro e w' ⟨rfl, h1⟩; obtain ⟨hch1, hfh1⟩ := gcell h1; obtain ⟨hG1, hb1, hb2⟩ := two6 w w' k A c h1; obtain ⟨k9, kf, k0, k1, k2, k3, k4, k5⟩ := row6 hb1; obtain ⟨r9, rf, r0, r1, r2, r3, r4, r5⟩ := row6 hb2; clear hch1 hfh1 hb1 hb2) | fail)
  refine bodyPost_ret (results_cells rfl _ _ (w.heap.size + 1) [.int .i64 k.s.ord, .int .i64 k.s.lit, .int .i64 k.s.most, .slice A (k.base) c, .int .i64 k.base, .int .i64 (-1)] _ rfl (cells6 (by go_cell) (by go_cell) (by go_cell) (by go_cell) (by go_cell) (by go_cell)) Tryz.underlying40 rfl (by kernel_rfl)) rfl ?_
  have hcl : k.cleared.ps.length = k.base := by simp [M.Kn.cleared]; omega
  refine ⟨A, c, ?_, ?_, ?_, ?_⟩
  · show _ = Ending.returned (.agg #[_, _, _, .slice A k.cleared.ps.length c, _, _])
    rw [hcl]; rfl
  · rw [hcl]
    have h2 := own_g (own_cut HO.out hb) hG1
    rw [cP_take] at h2
    have h2 : w'.ownsRow base 98 2 (.slice A k.base c) k.base (cP k.cleared.ps) := h2
    have o1 := own_off (m := k.base) HO.out (Nat.le_refl _)
    have o2 := own_off (m := k.base) HO.out (b := w.heap.size + 1) (by omega)
    exact (by repeat' (first | with_reducible exact h2 | with_reducible refine ownsRow_setCell_other ?_ o1 _ | with_reducible refine ownsRow_setCell_other ?_ o2 _))
  · have hG2 : GR w w' (Value.slice A k.ps.length c).ownBlock := GR.of_g hG1 _
    exact (by repeat' (first | (with_reducible exact GR.refl _ _) | (with_reducible assumption) | (with_reducible refine GR.set ?_ (by first | (simp <;> done) | (simp <;> omega)) _) | (with_reducible refine GR.of_g ?_ _)); all_goals (repeat' (first | (with_reducible exact G.refl _) | (with_reducible assumption) | (with_reducible refine G.alloc ?_ _) | (with_reducible refine G.drew ?_) | (with_reducible refine G.drewN ?_ _) | (refine G.setCell ?_ (by first | (simp <;> done) | (simp <;> omega)) _) | (with_reducible refine G.trans ?_ (by with_reducible assumption)))))
  · exact fun g hg => Or.inl (by obtain ⟨a, ha, e⟩ := ob_slice.1 hg; exact ob_slice.2 ⟨a, ha, e⟩)
set_option maxRecDepth 8000 in
set_option maxHeartbeats 2000000 in
theorem v_advance_stay (code : Nat) (hcc : code ≠ k.s.c) (hcl : code ≤ 4000) (hgr : k.grows = false) (x : Int) : Calls Tryz.prog 123 #[knV k A c, .int .i64 code, .int .u8 x] w fun e w' => GivesA (k.after code) base (.slice A k.ps.length c) w e w' := by
  have hs := hk.s
  have h256 := hs.c256
  have hne : ((code : Int) == (k.s.c : Int)) = false := by simp; omega
  have HK : Hid (k.after code = { k with last := (code : Int) }) := by show _ = _; unfold M.Kn.after; rw [hgr]; rfl
  have HGR := Lib.hid hgr
  have HO := Lib.hid ho
  clear ho hgr
  go_enter Tryz.func123, Tryz.ntmps123
  go_wp2_with (first | (go_at_call 80; refine (v_ClearCode k.s hs _).mono ?_; rintro e w' ⟨rfl, h1⟩; obtain ⟨hch1, hfh1⟩ := gcell h1; obtain ⟨hG1, hb1, hb2⟩ := two6 w w' k A c h1; obtain ⟨k9, kf, k0, k1, k2, k3, k4, k5⟩ := row6 hb1; clear hch1 hfh1) | (go_at_call 83; refine (v_grows k hk A c _ false HGR.out).mono ?_; rintro e w' ⟨rfl, h2⟩; obtain ⟨hch2, hfh2⟩ := gcell h2; have hb1 := (h2.heap k9).trans hb1; have hb2 := (h2.heap (lt_of_block hb2)).trans hb2; have hG2 := hG1.trans h2; clear hch2 hfh2 k9 kf k0 k1 k2 k3 k4 k5; obtain ⟨k9, kf, k0, k1, k2, k3, k4, k5⟩ := row6 hb1; obtain ⟨r9, rf, r0, r1, r2, r3, r4, r5⟩ := row6 hb2; clear hb1 hb2) | fail)
  refine bodyPost_ret (results_cells rfl _ _ (w.heap.size + 1) [.int .i64 k.s.ord, .int .i64 k.s.lit, .int .i64 k.s.most, .slice A (k.ps.length) c, .int .i64 k.base, .int .i64 code] _ rfl (cells6 (by go_cell) (by go_cell) (by go_cell) (by go_cell) (by go_cell) (by go_cell)) Tryz.underlying40 rfl (by kernel_rfl)) rfl ?_
  rw [HK.out]
  refine ⟨A, c, rfl, ?_, ?_, fun g hg => Or.inl hg⟩
  · have h2 := own_g HO.out hG2
    have o1 := own_off (m := k.ps.length) HO.out (Nat.le_refl _)
    have o2 := own_off (m := k.ps.length) HO.out (b := w.heap.size + 1) (by omega)
    exact (by repeat' (first | with_reducible exact h2 | with_reducible refine ownsRow_setCell_other ?_ o1 _ | with_reducible refine ownsRow_setCell_other ?_ o2 _))
  · have hG2 : GR w w' (Value.slice A k.ps.length c).ownBlock := GR.of_g hG2 _
    exact (by repeat' (first | (with_reducible exact GR.refl _ _) | (with_reducible assumption) | (with_reducible refine GR.set ?_ (by first | (simp <;> done) | (simp <;> omega)) _) | (with_reducible refine GR.of_g ?_ _)); all_goals (repeat' (first | (with_reducible exact G.refl _) | (with_reducible assumption) | (with_reducible refine G.alloc ?_ _) | (with_reducible refine G.drew ?_) | (with_reducible refine G.drewN ?_ _) | (refine G.setCell ?_ (by first | (simp <;> done) | (simp <;> omega)) _) | (with_reducible refine G.trans ?_ (by with_reducible assumption)))))
set_option maxRecDepth 8000 in
set_option maxHeartbeats 2000000 in
theorem v_advance_grow (code l : Nat) (hl : k.last = l) (hcc : code ≠ k.s.c) (hcl : code ≤ 4000) (hgr : k.grows = true) (x : Nat) (hx : x ≤ 255) (hx2 : ((k.A code).headD 0).toNat = x) : Calls Tryz.prog 123 #[knV k A c, .int .i64 code, .int .u8 x] w fun e w' => GivesA (k.after code) base (.slice A k.ps.length c) w e w' := by
  have hs := hk.s
  have h256 := hs.c256
  have hps : k.ps.length ≤ 1024 := by have h1 := hk.nxt_le; have h2 := hk.s.l1024; unfold M.Kn.nxt at h1; omega
  have hne : ((code : Int) == (k.s.c : Int)) = false := by simp; omega
  have HK : Hid (k.after code = { k with ps := k.ps ++ [(l, x)], last := (code : Int) }) := by show _ = _; unfold M.Kn.after; rw [hgr, hx2, hl]; simp
  have hwx : IntKind.i64.wrap (x : Int) = x := IntWalk.i64_in _ ⟨by omega, by omega⟩
  have HGR := Lib.hid hgr
  have HO := Lib.hid ho
  have HL := Lib.hid hl
  clear ho hgr hx2 hl
  go_enter Tryz.func123, Tryz.ntmps123
  go_upto_region 6 with (first | (go_at_call 80; refine (v_ClearCode k.s hs _).mono ?_; rintro e w' ⟨rfl, h1⟩; obtain ⟨hch1, hfh1⟩ := gcell h1; obtain ⟨hG1, hb1, hb2⟩ := two6 w w' k A c h1; obtain ⟨k9, kf, k0, k1, k2, k3, k4, k5⟩ := row6 hb1; clear hch1 hfh1) | (go_at_call 83; refine (v_grows k hk A c _ true HGR.out).mono ?_; rintro e w' ⟨rfl, h2⟩; obtain ⟨hch2, hfh2⟩ := gcell h2; have hb1 := (h2.heap k9).trans hb1; have hb2 := (h2.heap (lt_of_block hb2)).trans hb2; have hG2 := hG1.trans h2; clear hch2 hfh2 k9 kf k0 k1 k2 k3 k4 k5) | fail)
  rename World => w9
  have hO9 := own_g HO.out hG2
  obtain ⟨k9, kf, k0, k1, k2, k3, k4, k5⟩ := row6 hb1
  obtain ⟨r9, rf, r0, r1, r2, r3, r4, r5⟩ := row6 hb2
  rw [HL.out] at k5
  have o1 := own_off (m := k.ps.length) HO.out (Nat.le_refl _)
  have o2 := own_off (m := k.ps.length) HO.out (b := w.heap.size + 1) (by omega)
  go_wp2_with (first | (at_builtin; refine app 38 38 Tryz.underlying38 pair_info (by rfl) (by omega) rfl (.tmp 23) (.tmp 29) (by rfl) base _ k.ps.length (cP k.ps) (by rfl) (hO9.alloc _) _ 1 (cP [(l, x)]) (by rfl) (src_pr _ _ (l, x) (heap_alloc_new _ _)) (by omega) (by simp; omega) ?_; intro v3 w3 hown3 hgw3 hatw3; obtain ⟨A3, c3, rfl⟩ := own_form hown3; have hc1 := row6 ((GR.far (show GR _ w3 _ from hgw3) (k := w.heap.size) (by simp; omega) o1).trans (((G.refl w9).alloc _).heap k9 |>.trans hb1)); have hc2 := row6 ((GR.far (show GR _ w3 _ from hgw3) (k := w.heap.size + 1) (by simp; omega) o2).trans (((G.refl w9).alloc _).heap r9 |>.trans hb2)); rw [HL.out] at hc1; obtain ⟨c9, cf, c0, c1, c2, c30, c4, c5⟩ := hc1; obtain ⟨d9, df, d0, d1, d2, d3, d4, d5⟩ := hc2) | fail)
  refine bodyPost_ret (results_cells rfl _ _ (w.heap.size + 1) [.int .i64 k.s.ord, .int .i64 k.s.lit, .int .i64 k.s.most, .slice A3 ((k.ps.length + 1)) c3, .int .i64 k.base, .int .i64 code] _ rfl (cells6 (by go_cell) (by go_cell) (by go_cell) (by go_cell) (by go_cell) (by go_cell)) Tryz.underlying40 rfl (by kernel_rfl)) rfl ?_
  rw [HK.out]
  have hlen : (k.ps ++ [(l, x)]).length = k.ps.length + 1 := by simp
  have hlt3 : ∀ b, (Value.slice A3 (k.ps.length + 1) c3).ownBlock = some b → b ≠ w.heap.size ∧ b ≠ w.heap.size + 1 := by
    intro b hb
    rcases hatw3 with h | h
    · have h4 : (Value.slice A k.ps.length c).ownBlock = some b := h.symm.trans hb
      have := own_lt HO.out h4
      omega
    · have h4 := Option.some.inj (hb.symm.trans h)
      simp at h4; omega
  refine ⟨A3, c3, ?_, ?_, ?_, ?_⟩
  · show _ = Ending.returned (.agg #[_, _, _, .slice A3 (k.ps ++ [(l, x)]).length c3, _, _])
    rw [hlen]
  · show World.ownsRow _ base _ 2 (.slice A3 (k.ps ++ [(l, x)]).length c3) (k.ps ++ [(l, x)]).length (cP (k.ps ++ [(l, x)]))
    rw [hlen, cP_append]
    have o3 : (Value.slice A3 (k.ps.length + 1) c3).ownBlock ≠ some w.heap.size := fun e => (hlt3 _ e).1 rfl
    have o4 : (Value.slice A3 (k.ps.length + 1) c3).ownBlock ≠ some (w.heap.size + 1) := fun e => (hlt3 _ e).2 rfl
    exact (by repeat' (first | with_reducible exact hown3 | with_reducible refine ownsRow_setCell_other ?_ o3 _ | with_reducible refine ownsRow_setCell_other ?_ o4 _))
  · have hG3 : GR w w3 (Value.slice A k.ps.length c).ownBlock := ((GR.of_g hG2 _).g ((G.refl _).alloc _)).step (v := .slice A k.ps.length c) (VR.self _ _) hgw3
    exact (by repeat' (first | (with_reducible exact GR.refl _ _) | (with_reducible assumption) | (with_reducible refine GR.set ?_ (by first | (simp <;> done) | (simp <;> omega)) _) | (with_reducible refine GR.of_g ?_ _)); all_goals (repeat' (first | (with_reducible exact G.refl _) | (with_reducible assumption) | (with_reducible refine G.alloc ?_ _) | (with_reducible refine G.drew ?_) | (with_reducible refine G.drewN ?_ _) | (refine G.setCell ?_ (by first | (simp <;> done) | (simp <;> omega)) _) | (with_reducible refine G.trans ?_ (by with_reducible assumption)))))
  · show VR w _ (.slice A3 (k.ps ++ [(l, x)]).length c3)
    rw [hlen]
    exact VR.step (b := w9.alloc _) (by have := hG2.size; simp; omega) (VR.self _ _) hatw3
theorem v_advance (code : Nat) (hcf : k.follows code) (x : Nat) (hx : x ≤ 255) (hx2 : ((k.A code).headD 0).toNat = x) : Calls Tryz.prog 123 #[knV k A c, .int .i64 code, .int .u8 x] w fun e w' => GivesA (k.after code) base (.slice A k.ps.length c) w e w' := by
  have hcc := (hk.follows_ne hcf).1
  have hcl : code ≤ 4000 := by
    have h1 := hk.greatest_le; have := hk.s.l1024; have := hk.s.c256
    unfold M.Kn.follows at hcf; omega
  cases hgr : k.grows with
  | false => exact v_advance_stay k hk A c base w ho hbase code hcc hcl hgr x
  | true =>
    have hgl := hk.grows_last hgr
    exact v_advance_grow k hk A c base w ho hbase code k.last.toNat (by omega) hcc hcl hgr x hx hx2
end
end Go.Proofs.YtlaijbkonapdbaaGreat

namespace Go.Proofs.YtlaijbkonapdbaaGreat
open Go.RowKit
attribute [local go_sem] grow_cell grow_frozen conv_one

/-! Rows that lie apart. -/
def DJ (u v : Value) : Prop := ∀ g, u.ownBlock = some g → v.ownBlock ≠ some g
theorem DJ.symm {u v : Value} (h : DJ u v) : DJ v u := fun g hg e => h g e hg
theorem DJ.nil {u : Value} : DJ u (.slice none 0 0) := fun g _ e => by simp [Value.ownBlock] at e
theorem DJ.nil' {v : Value} : DJ (.slice none 0 0) v := DJ.nil.symm
theorem DJ.vr {W : World} {base : Nat} {e : TypeId} {size n : Nat} {u u' v : Value} {xs : List Value} (h : DJ u v) (hv : W.ownsRow base e size v n xs) (k : VR W u.ownBlock u') : DJ u' v := by
  intro g hg e
  rcases k g hg with h1 | h1
  · exact h g h1 e
  · have := own_lt hv e; omega
theorem VR.at_ {W : World} {u u' : Value} (k : u'.ownBlock = u.ownBlock ∨ u'.ownBlock = some W.heap.size) : VR W u.ownBlock u' := VR.step (Nat.le_refl _) (VR.self W u) k
theorem own_dj {W W2 : World} {base : Nat} {e : TypeId} {size n : Nat} {u v : Value} {xs : List Value} (hv : W.ownsRow base e size v n xs) (hg : GR W W2 u.ownBlock) (h : DJ u v) : W2.ownsRow base e size v n xs :=
  own_gr hv hg (by
    cases hb : v.ownBlock with
    | none => exact Or.inl rfl
    | some g => exact Or.inr fun e2 => h g e2.symm hb)
theorem DJ.new {W : World} {base : Nat} {e : TypeId} {size n : Nat} {u v : Value} {xs : List Value} (hv : W.ownsRow base e size v n xs) (k : ∀ g, u.ownBlock = some g → W.heap.size ≤ g) : DJ u v := by
  intro g hg e
  have := own_lt hv e; have := k g hg; omega
theorem own_new {W : World} {base : Nat} {e : TypeId} {size n : Nat} {v : Value} {xs : List Value} (hv : W.ownsRow base e size v n xs) : ∀ g, v.ownBlock = some g → base ≤ g := fun _ h => own_base hv h

/-- impl's loop over codes: the box with what is known (its pairs are its own), a row of numbers, a row of bytes -/
structure WI (w W : World) (kk : M.Kn) (Ak : Option Addr) (ck : Nat) (v9 : Value) (ow : List Nat) (v10 : Value) (od : M.Bytes) : Prop where
  box : W.heap[w.heap.size]? = some (.cells #[.int .i64 kk.s.ord, .int .i64 kk.s.lit, .int .i64 kk.s.most, .slice Ak kk.ps.length ck, .int .i64 kk.base, .int .i64 kk.last] 40 (0, 0))
  op : W.ownsRow (w.heap.size + 1) 98 2 (.slice Ak kk.ps.length ck) kk.ps.length (cP kk.ps)
  o9 : W.ownsRow (w.heap.size + 1) 3 1 v9 ow.length (cI ow)
  o10 : W.ownsRow (w.heap.size + 1) 5 1 v10 od.length (cB od)
  d1 : DJ v9 v10
  d2 : DJ (.slice Ak kk.ps.length ck) v9
  d3 : DJ (.slice Ak kk.ps.length ck) v10
  g : G w W
section
variable {w W W2 : World} {kk : M.Kn} {Ak : Option Addr} {ck : Nat} {v9 v10 : Value} {ow : List Nat} {od : M.Bytes}
theorem WI.up (h : WI w W kk Ak ck v9 ow v10 od) (hg : G W W2) : WI w W2 kk Ak ck v9 ow v10 od :=
  ⟨(hg.heap (lt_of_block h.box)).trans h.box, own_g h.op hg, own_g h.o9 hg, own_g h.o10 hg, h.d1, h.d2, h.d3, h.g.trans hg⟩
theorem WI.app9 (h : WI w W kk Ak ck v9 ow v10 od) {v1 : Value} {x : Nat} (hgr : W.grownBy W2 v9.ownBlock) (ho : W2.ownsRow (w.heap.size + 1) 3 1 v1 (ow.length + 1) (cI ow ++ [.int .i64 x]))
    (hat : v1.ownBlock = v9.ownBlock ∨ v1.ownBlock = some W.heap.size) : WI w W2 kk Ak ck v1 (ow ++ [x]) v10 od :=
  ⟨(GR.far (show GR W W2 _ from hgr) (lt_of_block h.box) (fun e => by have := own_base h.o9 e; omega)).trans h.box, own_dj h.op hgr h.d2.symm, by rw [cI_snoc, List.length_append]; exact ho, own_dj h.o10 hgr h.d1,
    h.d1.vr h.o10 (VR.at_ hat), (h.d2.symm.vr h.op (VR.at_ hat)).symm, h.d3, h.g.grown hgr (fun g hg => by have := own_base h.o9 hg; omega)⟩
theorem WI.app10 (h : WI w W kk Ak ck v9 ow v10 od) {v1 : Value} {x : M.Bytes} (hgr : W.grownBy W2 v10.ownBlock) (ho : W2.ownsRow (w.heap.size + 1) 5 1 v1 (od.length + x.length) (cB od ++ cB x))
    (hat : v1.ownBlock = v10.ownBlock ∨ v1.ownBlock = some W.heap.size) : WI w W2 kk Ak ck v9 ow v1 (od ++ x) :=
  ⟨(GR.far (show GR W W2 _ from hgr) (lt_of_block h.box) (fun e => by have := own_base h.o10 e; omega)).trans h.box, own_dj h.op hgr h.d3.symm, own_dj h.o9 hgr h.d1.symm, by rw [cB_append, List.length_append]; exact ho,
    (h.d1.symm.vr h.o9 (VR.at_ hat)).symm, h.d2, (h.d3.symm.vr h.op (VR.at_ hat)).symm, h.g.grown hgr (fun g hg => by have := own_base h.o10 hg; omega)⟩
/-- what is known is written anew -/
theorem WI.set (h : WI w W kk Ak ck v9 ow v10 od) {k2 : M.Kn} {A2 : Option Addr} {c2 : Nat} (hg : GR W W2 (Value.slice Ak kk.ps.length ck).ownBlock) (hv : VR W (Value.slice Ak kk.ps.length ck).ownBlock (.slice A2 k2.ps.length c2)) (ho : W2.ownsRow (w.heap.size + 1) 98 2 (.slice A2 k2.ps.length c2) k2.ps.length (cP k2.ps)) :
    WI w ((((((W2.setCell ⟨w.heap.size, 0, none⟩ (.int .i64 k2.s.ord)).setCell ⟨w.heap.size, 1, none⟩ (.int .i64 k2.s.lit)).setCell ⟨w.heap.size, 2, none⟩ (.int .i64 k2.s.most)).setCell ⟨w.heap.size, 3, none⟩ (.slice A2 k2.ps.length c2)).setCell ⟨w.heap.size, 4, none⟩ (.int .i64 k2.base)).setCell ⟨w.heap.size, 5, none⟩ (.int .i64 k2.last)) k2 A2 c2 v9 ow v10 od := by
  have hb := (GR.far hg (lt_of_block h.box) (fun e => by have := own_base h.op e; omega)).trans h.box
  have n1 : ∀ {base size n : Nat} {e : TypeId} {v : Value} {xs : List Value}, W2.ownsRow (w.heap.size + 1) e size v n xs → v.ownBlock ≠ some w.heap.size := fun h e => by have := own_base h e; omega
  have o9 := own_dj h.o9 hg h.d2
  have o10 := own_dj h.o10 hg h.d3
  refine ⟨set6_row hb _ _ _ _ _ _, own_set6 ho (n1 ho (base := 0)), own_set6 o9 (n1 o9 (base := 0)), own_set6 o10 (n1 o10 (base := 0)), h.d1, h.d2.vr h.o9 hv, h.d3.vr h.o10 hv, ?_⟩
  have := h.g.grown hg (fun g hg => by have := own_base h.op hg; omega)
  exact (((((this.setCell (Nat.le_refl _) _).setCell (Nat.le_refl _) _).setCell (Nat.le_refl _) _).setCell (Nat.le_refl _) _).setCell (Nat.le_refl _) _).setCell (Nat.le_refl _) _
/-- the first of all: what was copied is stored -/
theorem WI.new {k2 : M.Kn} {A2 : Option Addr} {c2 : Nat} {o0 o1 o2 o3 o4 o5 : Value} (hb : W2.heap[w.heap.size]? = some (.cells #[o0, o1, o2, o3, o4, o5] 40 (0, 0))) (hG : G w W2) (ho : W2.ownsRow (w.heap.size + 1) 98 2 (.slice A2 k2.ps.length c2) k2.ps.length (cP k2.ps)) :
    WI w ((((((W2.setCell ⟨w.heap.size, 0, none⟩ (.int .i64 k2.s.ord)).setCell ⟨w.heap.size, 1, none⟩ (.int .i64 k2.s.lit)).setCell ⟨w.heap.size, 2, none⟩ (.int .i64 k2.s.most)).setCell ⟨w.heap.size, 3, none⟩ (.slice A2 k2.ps.length c2)).setCell ⟨w.heap.size, 4, none⟩ (.int .i64 k2.base)).setCell ⟨w.heap.size, 5, none⟩ (.int .i64 k2.last)) k2 A2 c2 (.slice none 0 0) [] (.slice none 0 0) [] := by
  refine ⟨set6_row hb _ _ _ _ _ _, own_set6 ho (fun e => by have := own_base ho e; omega), World.ownsRow_nil _ _ _ _, World.ownsRow_nil _ _ _ _, DJ.nil, DJ.nil, DJ.nil, ?_⟩
  exact (((((hG.setCell (Nat.le_refl _) _).setCell (Nat.le_refl _) _).setCell (Nat.le_refl _) _).setCell (Nat.le_refl _) _).setCell (Nat.le_refl _) _).setCell (Nat.le_refl _) _
end
end Go.Proofs.YtlaijbkonapdbaaGreat

namespace Go.Proofs.YtlaijbkonapdbaaGreat
open Go.RowKit
attribute [local go_sem] grow_cell grow_frozen conv_one
theorem v_advance_clearI (k : M.Kn) (hk : k.V) (A : Option Addr) (c base : Nat) (w : World) (ho : w.ownsRow base 98 2 (.slice A k.ps.length c) k.ps.length (cP k.ps)) (hbase : base ≤ w.heap.size) (code : Nat) (hc : code = k.s.c) (x : Int) :
    Calls Tryz.prog 123 #[knV k A c, .int .i64 code, .int .u8 x] w fun e w' => GivesA k.cleared base (.slice A k.ps.length c) w e w' := by
  subst hc; exact v_advance_clear k hk A c base w ho hbase x
section
variable (k : M.Kn) (hk : k.V) (A : Option Addr) (c : Nat) (w : World) (hr : Rds w 2 A k.ps.length (cP k.ps)) (hA : ∀ a, A = some a → a.block < w.heap.size)
include hk hr hA
set_option maxRecDepth 8000 in
set_option maxHeartbeats 8000000 in
theorem v_walkCodes (cs : List Nat) (hcs : cs.length ≤ 3100) (ho : M.Kn.okW k cs) (hdt : (M.Kn.dat k cs).length ≤ 2000) (Ac : Option Addr) (cc : Nat) (hrc : Rds w 1 Ac cs.length (cI cs)) :
    Calls Tryz.prog 105 #[knV k A c, .slice Ac cs.length cc] w fun e w' => (∃ Aw cw, e = .returned (.tuple #[.slice Aw cs.length cw, S (M.Kn.dat k cs), .bool true]) ∧ w'.ownsRow w.heap.size 3 1 (.slice Aw cs.length cw) cs.length (cI (M.Kn.widths k cs))) ∧ G w w' := by
  have hps : k.ps.length ≤ 2000 := by have h1 := hk.nxt_le; have := hk.s.l1024; unfold M.Kn.nxt at h1; omega
  have HR := Lib.hid hr
  have HRC := Lib.hid hrc
  have HA := Lib.hid hA
  have HO := Lib.hid ho
  have HDT := Lib.hid hdt
  clear ho hdt hr hA hrc
  go_enter Tryz.func105, Tryz.ntmps105
  go_upto_region 4 with (first | (go_at_call 62; refine (v_KnownValid_impl k hk A c _ (HR.out.g (by repeat' (first | (with_reducible exact G.refl _) | (with_reducible assumption) | (with_reducible refine G.alloc ?_ _) | (with_reducible refine G.drew ?_) | (with_reducible refine G.drewN ?_ _) | (refine G.setCell ?_ (by first | (simp <;> done) | (simp <;> omega)) _) | (with_reducible refine G.trans ?_ (by with_reducible assumption)))))).mono ?_; rintro e w' ⟨rfl, h1⟩; obtain ⟨hch1, hfh1⟩ := gcell h1; try (have hzh1 : w.heap.size < w'.heap.size := by have := h1.size; (try simp at this); omega); try (have hyh1 : w.heap.size + 1 < w'.heap.size := by have := h1.size; (try simp at this); omega)) | (go_at_call 85; refine (v_copyKnown k hps A c _ (HR.out.g (by repeat' (first | (with_reducible exact G.refl _) | (with_reducible assumption) | (with_reducible refine G.alloc ?_ _) | (with_reducible refine G.drew ?_) | (with_reducible refine G.drewN ?_ _) | (refine G.setCell ?_ (by first | (simp <;> done) | (simp <;> omega)) _) | (with_reducible refine G.trans ?_ (by with_reducible assumption))))) (fun a ha => by have := HA.out a ha; have := h1.size; simp at *; omega)).mono ?_; rintro e w' ⟨⟨A1, c1, rfl, hR1⟩, h3⟩; have hb3 := ((h1.trans h3).heap (k := w.heap.size) (by simp)).trans (alloc_at _ _ _ rfl); have hG3 : G w w' := (by repeat' (first | (with_reducible exact G.refl _) | (with_reducible assumption) | (with_reducible refine G.alloc ?_ _) | (with_reducible refine G.drew ?_) | (with_reducible refine G.drewN ?_ _) | (refine G.setCell ?_ (by first | (simp <;> done) | (simp <;> omega)) _) | (with_reducible refine G.trans ?_ (by with_reducible assumption)))); obtain ⟨k9, kf, k0, k1, k2, k3, k4, k5⟩ := row6 hb3) | fail)
  rename World => w3
  have hR3 := own_mono (base' := w.heap.size + 1) hR1 (by have := h1.size; simp at *; omega)
  refine wp_gen (fun W => WI w W k A1 c1 (.slice none 0 0) [] (.slice none 0 0) []) (WI.new hb3 hG3 hR3) ?_
  rintro W3 hW3
  clear hb3 hG3 hR1 hR3 k9 kf k0 k1 k2 k3 k4 k5 h1 h3
  obtain ⟨k9, kf, k0, k1, k2, k3, k4, k5⟩ := row6 hW3.box
  refine wp_region_quiet_below (by kernel_rfl) (by kernel_rfl) ?_
  repeat (first | go_big_quiet_step ((first | (go_at_call 80; exact qcall (v_ClearCode k.s hk.s _)) | (go_at_call 78; exact qcall (v_EndCode k.s hk.s _)))) | quiet_step ((first | (go_at_call 80; exact qcall (v_ClearCode k.s hk.s _)) | (go_at_call 78; exact qcall (v_EndCode k.s hk.s _)))))
  refine wpQuiet_nil ?_
  intro w' hw'
  have h4 := G.of_regrown hw'
  clear hw'
  obtain ⟨hch4, hfh4⟩ := gcell h4
  have hW4 := hW3.up h4
  clear k9 kf k0 k1 k2 k3 k4 k5 hch4 hfh4 hW3 h4
  go_wp2
  go_loopw [9, 10, 32] (fun v9 v10 x wr => ∃ (kk : M.Kn) (Ak : Option Addr) (ck i : Nat) (rest ow : List Nat) (od : M.Bytes), x = .int .i64 i ∧ i ≤ cs.length ∧ Hid (cs.drop i = rest) ∧ WI w wr kk Ak ck v9 ow v10 od ∧ Hid (kk.V) ∧ Hid (kk.s = k.s) ∧ Hid (M.Kn.okW kk rest)
      ∧ Hid (M.Kn.widths k cs = ow ++ M.Kn.widths kk rest) ∧ Hid (M.Kn.dat k cs = od ++ M.Kn.dat kk rest) ∧ Hid (ow.length = i) ∧ od.length ≤ 2000) (fun _ _ x _ => cs.length - (intOf x).toNat)
  case atStart => exact ⟨k, A1, c1, 0, cs, [], [], rfl, by omega, rfl, hW4, hk, rfl, HO.out, rfl, rfl, rfl, by simp⟩
  case round =>
    obtain ⟨kk, Ak, ck, i, rest, ow, od, rfl, hi, HRS, hWI, HKV, HKS, HOK, HWD, HDD, HOW, hod⟩ := hrel
    have how : ow.length ≤ 3100 := by rw [HOW.out]; omega
    obtain ⟨A10, c10, e10⟩ := own_form hWI.o10
    subst e10
    by_cases hlt : i < cs.length
    · obtain ⟨code, hcode⟩ : ∃ x, cs[i]? = some x := ⟨_, List.getElem?_eq_getElem hlt⟩
      obtain ⟨cs', hcs'⟩ : ∃ x, cs.drop (i + 1) = x := ⟨_, rfl⟩
      have hrest : rest = code :: cs' := by
        rw [← HRS.out, List.drop_eq_getElem_cons hlt, ← hcs']
        rw [List.getElem?_eq_getElem hlt] at hcode; injection hcode with hcode; rw [hcode]
      subst hrest
      obtain ⟨gc, hAc, hgc, hcell⟩ := HRC.out.at_ (by omega)
      have hcv := hcell i _ (cI_get cs i code hcode)
      subst hAc
      have b1 : (0 : Int) ≤ (i : Int) := by omega
      have b2 : (i : Int) < (cs.length : Int) := by omega
      have hwd := HKV.out.width_le
      have HCV := Lib.hid hcv
      have HCS := Lib.hid hcs'
      have hGr := hWI.g
      have dcode : wr.cell? ⟨gc, i, none⟩ = some (.int .i64 code) := (hGr.cell (p := ⟨gc, i, none⟩) hgc).trans hcv
      have hgc1 : gc < wr.heap.size := Nat.lt_of_lt_of_le hgc hGr.size
      obtain ⟨k9, kf, k0, k1, k2, k3, k4, k5⟩ := row6 hWI.box
      have hsk : kk.s.c = k.s.c ∧ kk.s.e = k.s.e := by rw [HKS.out]; exact ⟨rfl, rfl⟩
      have HCG : Hid (decide (code ≤ kk.greatest) = true) := by
        show _ = _
        have hge : kk.s.c + 1 ≤ kk.greatest := by unfold M.Kn.greatest M.Kn.nxt; split <;> omega
        have := M.St.e_eq kk.s
        rcases HOK.out with ⟨he, _⟩ | ⟨_, he | hf, _⟩
        · simp; omega
        · simp; omega
        · simp; unfold M.Kn.follows at hf; omega
      have hcl4 : code ≤ 4000 := by
        have h1 := HKV.out.greatest_le; have := HKV.out.s.l1024
        have := HCG.out; simp at this; omega
      have hgd : (((code : Int) == (k.s.e : Int)) = false) ∨ (((i : Int) < (cs.length : Int) - 1) = False ∧ ((code : Int) == (k.s.e : Int)) = true) := by
        rcases HOK.out with ⟨he, hn⟩ | ⟨hne, _⟩
        · right
          have := congrArg List.length HCS.out
          rw [hn] at this
          simp at this
          exact ⟨by simp; omega, by simp; omega⟩
        · left; simp; omega
      have HSK := Lib.hid hsk
      have hcw := (kk.width : Int)
      clear hcell hcode hcs' hcv hsk hcw
      rcases hgd with hg1 | ⟨hg2, hg1⟩
      · have hne : code ≠ kk.s.e := by
          have := HSK.out.2
          intro h; rw [h, this] at hg1; simp at hg1
        go_upto_region 12 with (first | (go_at_call 121; refine (v_canFollow kk HKV.out Ak ck _ code true HCG.out).mono ?_; rintro e w' ⟨rfl, h1⟩; obtain ⟨hch1, hfh1⟩ := gcell h1; have hW1 := hWI.up h1; obtain ⟨p9, pf, p0, p1, p2, p3, p4, p5⟩ := row6 hW1.box) | fail)
        rename World => w1
        clear hWI k9 kf k0 k1 k2 k3 k4 k5 hch1 hfh1 h1 dcode hgc1
        have hok : code = kk.s.c ∨ kk.follows code := by
          rcases HOK.out with ⟨he, _⟩ | ⟨_, h, _⟩
          · exact absurd he hne
          · exact h
        have hok2 : Hid (M.Kn.okW (kk.step code) cs') := by
          rcases HOK.out with ⟨he, _⟩ | ⟨_, _, h⟩
          · exact absurd he hne
          · exact h
        have HNE := Lib.hid hne
        clear hne
        rcases hok with hcc | hfo
        · have he2 : ((code : Int) == (k.s.c : Int)) = true := by have := HSK.out.1; simp; omega
          have HCC := Lib.hid hcc
          clear hcc
          go_wp2_with (first | (go_at_call 122; refine (v_width kk HKV.out Ak ck _).mono ?_; rintro e w' ⟨rfl, h2⟩; obtain ⟨hch2, hfh2⟩ := gcell h2; have hW2 := hW1.up h2; have hz2 := lt_of_block hW2.box) | (at_builtin; refine app_int rfl (.tmp 53) (.tmp 56) rfl (w.heap.size + 1) _ _ _ rfl (hW2.o9.alloc _) ⟨_, 0, none⟩ 1 1 [_] rfl rfl (cell_one_new _ _ _) (by simp [Value.oneCell']) (by omega) (by simp; omega) ?_; intro v1 w1 hownw1 hgw1 hatw1; have hW3 := (hW2.up ((G.refl _).alloc _)).app9 hgw1 hownw1 hatw1; obtain ⟨q9, qf, q0, q1, q2, q3, q4, q5⟩ := row6 hW3.box) | (go_at_call 123; refine (v_advance_clearI kk HKV.out Ak ck (w.heap.size + 1) _ hW3.op (by omega) code HCC.out 0).mono ?_; rintro e w' ⟨A5, c5, rfl, hR5, hg5, hv5⟩; have hb5 := (GR.far hg5 q9 (fun e => by have := own_base hW3.op e; omega)).trans hW3.box; obtain ⟨t9, tf, t0, t1, t2, t3, t4, t5⟩ := row6 hb5; have hW5 := hW3.set hg5 hv5 hR5) | fail)
          go_roundw
          case rel =>
            refine ⟨kk.cleared, A5, c5, i + 1, cs', ow ++ [kk.width], od, by go_num, by omega, HCS.out, hW5, HKV.out.cleared, HKS.out, ?_, ?_, ?_, ?_, hod⟩
            · have h := hok2.out
              rw [HCC.out, M.Kn.step_clear] at h; exact h
            · show _ = _
              rw [HWD.out]; simp only [M.Kn.widths]; rw [HCC.out, M.Kn.step_clear]; simp
            · show _ = _
              rw [HDD.out]; simp only [M.Kn.dat, if_neg HNE.out]; rw [HCC.out, M.Kn.step_clear]; simp [M.Kn.out]
            · show _ = _; rw [List.length_append, HOW.out]; rfl
          case measure => simp [intOf]; omega
        · have he2 : ((code : Int) == (k.s.c : Int)) = false := by have := HSK.out.1; have := (HKV.out.follows_ne hfo).1; simp; omega
          obtain ⟨b, hb⟩ : ∃ b, bs b = kk.A code := ⟨⟨(kk.A code).toArray⟩, rfl⟩
          have hbS : Hid (S (kk.A code) = .string b) := (bs_eq hb).symm
          have hAn := HKV.out.A_ne hfo
          have hb1 : 1 ≤ b.size := by rw [bs_size, hb]; exact hAn.1
          have hdd : M.Kn.dat k cs = (od ++ kk.A code) ++ M.Kn.dat (kk.step code) cs' := by
            rw [HDD.out]; simp only [M.Kn.dat, if_neg HNE.out, M.Kn.out, if_neg (HKV.out.follows_ne hfo).1]; simp
          have hob : od.length + b.size ≤ 2000 := by
            have := HDT.out; rw [hdd] at this; simp only [List.length_append] at this; rw [bs_size, hb]; omega
          obtain ⟨x0, hx0⟩ : ∃ x0, ((kk.A code).headD 0).toNat = x0 := ⟨_, rfl⟩
          have hx255 : x0 ≤ 255 := by rw [← hx0]; have := ((kk.A code).headD 0).toNat_lt; omega
          have hget0 : ∀ h : 0 < b.size, ((b[0]'h).toNat : Int) = (x0 : Int) := by
            intro h
            have h1 := bs_get b 0 h
            rw [hb] at h1
            rw [← hx0]
            cases hA : kk.A code with
            | nil => rw [hA] at h1; simp at h1
            | cons y t => rw [hA] at h1; simp at h1; rw [← h1]; rfl
          have HX0 := Lib.hid hx0
          have HB := Lib.hid hb
          have HF := Lib.hid hfo
          have HDD2 := Lib.hid hdd
          clear hfo hb hAn hdd hx0
          go_upto_region 18 with (first | (go_at_call 122; refine (v_width kk HKV.out Ak ck _).mono ?_; rintro e w' ⟨rfl, h2⟩; obtain ⟨hch2, hfh2⟩ := gcell h2; have hW2 := hW1.up h2; have hz2 := lt_of_block hW2.box) | (at_builtin; refine app_int rfl (.tmp 53) (.tmp 56) rfl (w.heap.size + 1) _ _ _ rfl (hW2.o9.alloc _) ⟨_, 0, none⟩ 1 1 [_] rfl rfl (cell_one_new _ _ _) (by simp [Value.oneCell']) (by omega) (by simp; omega) ?_; intro v1 w1 hownw1 hgw1 hatw1; have hW3 := (hW2.up ((G.refl _).alloc _)).app9 hgw1 hownw1 hatw1; obtain ⟨q9, qf, q0, q1, q2, q3, q4, q5⟩ := row6 hW3.box) | (go_at_call 124; refine (v_wordText kk HKV.out Ak ck _ (Rds.own hW3.op) code HF.out).mono ?_; rintro e w' ⟨rfl, h6⟩; rw [hbS.out]; have hW4 := hW3.up h6; have hz4 := lt_of_block hW4.box) | (refine app_str rfl (.tmp 68) (.tmp 69) rfl (w.heap.size + 1) _ od.length _ rfl hW4.o10 b rfl (by omega) (by omega) ?_; intro v2 w2 hown2 hg2 hat2; have hW5 := hW4.app10 hg2 (by rw [HB.out, bs_size, HB.out] at hown2; exact hown2) hat2) | fail)
          refine wp_gen (fun W => WI w W kk Ak ck v1 (ow ++ [kk.width]) v2 (od ++ kk.A code)) hW5 ?_
          rintro W5 hW6
          clear hW5 hW4 hW3 hW2 hW1 hown2 hg2 hat2 hownw1 hgw1 hatw1 q9 qf q0 q1 q2 q3 q4 q5 h6 h2 p9 pf p0 p1 p2 p3 p4 p5 hch2 hfh2 hz2 hz4
          obtain ⟨q9, qf, q0, q1, q2, q3, q4, q5⟩ := row6 hW6.box
          have j0 : (0 : Int) < (b.size : Int) := by omega
          have j1 : 0 < b.size := by omega
          go_region_law (first | (refine step_fn ?_ 123 #[.tmp 71, .tmp 72, .tmp 74] #[40, 3, 5] ?_ #[knV kk Ak ck, .int .i64 code, .int .u8 x0] ?_ cf_advance ?_; exact rfl; exact rfl; (simp only [List.map_toArray, List.map_cons, List.map_nil, Act.eval]; rfl); refine (v_advance kk HKV.out Ak ck (w.heap.size + 1) _ (own_g hW6.op (by repeat' (first | (with_reducible exact G.refl _) | (with_reducible assumption) | (with_reducible refine G.alloc ?_ _) | (with_reducible refine G.drew ?_) | (with_reducible refine G.drewN ?_ _) | (refine G.setCell ?_ (by first | (simp <;> done) | (simp <;> omega)) _) | (with_reducible refine G.trans ?_ (by with_reducible assumption))))) (by (try simp only [World.size_drew]); omega) code HF.out x0 hx255 HX0.out).mono ?_; rintro e wA ⟨A5, c5, rfl, hR5, hg5, hv5⟩; have hW7 := hW6.up (W2 := W5.drew) (by repeat' (first | (with_reducible exact G.refl _) | (with_reducible assumption) | (with_reducible refine G.alloc ?_ _) | (with_reducible refine G.drew ?_) | (with_reducible refine G.drewN ?_ _) | (refine G.setCell ?_ (by first | (simp <;> done) | (simp <;> omega)) _) | (with_reducible refine G.trans ?_ (by with_reducible assumption)))); have hb5 := (GR.far hg5 (lt_of_block hW7.box) (fun e => by have := own_base hW7.op e; omega)).trans hW7.box; obtain ⟨t9, tf, t0, t1, t2, t3, t4, t5⟩ := row6 hb5; have hW8 := hW7.set hg5 hv5 hR5; refine ⟨_, rfl, ?_⟩) | fail)
          all_goals
            go_wp2
            go_roundw
            case rel =>
              refine ⟨kk.after code, A5, c5, i + 1, cs', ow ++ [kk.width], od ++ kk.A code, by go_num, by omega, HCS.out, hW8, HKV.out.after HF.out, HKS.out, ?_, ?_, ?_, ?_, ?_⟩
              · have h := hok2.out
                rw [M.Kn.step_after HKV.out HF.out] at h; exact h
              · show _ = _
                rw [HWD.out]; simp only [M.Kn.widths]; rw [M.Kn.step_after HKV.out HF.out]; simp
              · show _ = _
                rw [HDD2.out, M.Kn.step_after HKV.out HF.out]
              · show _ = _; rw [List.length_append, HOW.out]; rfl
              · rw [List.length_append, ← HB.out, ← bs_size]; exact hob
            case measure => simp [intOf]; omega
      · have he : code = k.s.e := by simp at hg1; omega
        have hnil : cs' = [] := by
          rcases HOK.out with ⟨_, hn⟩ | ⟨hne, _⟩
          · exact hn
          · exact absurd (he.trans HSK.out.2.symm) hne
        have hli : ¬ ((i : Int) < (cs.length : Int) - 1) := by rw [hg2]; exact not_false
        have HE := Lib.hid he
        clear hg2 he
        go_wp2_with (first | (go_at_call 121; refine (v_canFollow kk HKV.out Ak ck _ code true HCG.out).mono ?_; rintro e w' ⟨rfl, h1⟩; obtain ⟨hch1, hfh1⟩ := gcell h1; have hW1 := hWI.up h1; obtain ⟨p9, pf, p0, p1, p2, p3, p4, p5⟩ := row6 hW1.box) | (go_at_call 122; refine (v_width kk HKV.out Ak ck _).mono ?_; rintro e w' ⟨rfl, h2⟩; obtain ⟨hch2, hfh2⟩ := gcell h2; have hW2 := hW1.up h2; have hz2 := lt_of_block hW2.box) | (at_builtin; refine app_int rfl (.tmp 53) (.tmp 56) rfl (w.heap.size + 1) _ _ _ rfl (hW2.o9.alloc _) ⟨_, 0, none⟩ 1 1 [_] rfl rfl (cell_one_new _ _ _) (by simp [Value.oneCell']) (by omega) (by simp; omega) ?_; intro v1 w1 hownw1 hgw1 hatw1; have hW3 := (hW2.up ((G.refl _).alloc _)).app9 hgw1 hownw1 hatw1; obtain ⟨q9, qf, q0, q1, q2, q3, q4, q5⟩ := row6 hW3.box) | fail)
        go_roundw
        case rel =>
          refine ⟨kk, Ak, ck, i + 1, cs', ow ++ [kk.width], od, by go_num, by omega, HCS.out, hW3, HKV.out, HKS.out, ?_, ?_, ?_, ?_, hod⟩
          · rw [hnil]; trivial
          · show _ = _
            rw [HWD.out, hnil]; simp [M.Kn.widths]
          · show _ = _
            rw [HDD.out, hnil]; simp [M.Kn.dat, HE.out, HSK.out.2]
          · show _ = _; rw [List.length_append, HOW.out]; rfl
        case measure => simp [intOf]; omega
    · have hi1 : i = cs.length := by omega
      have hrest : rest = [] := by rw [← HRS.out, hi1]; simp
      have HI := Lib.hid hi1
      have HRN := Lib.hid hrest
      obtain ⟨A9, c9, e9⟩ := own_form hWI.o9
      subst e9
      have hconv := conv_own wr _ _ _ _ _ hWI.o10
      have hconv2 := conv_own wr.drew _ _ _ _ _ (own_g hWI.o10 (G.refl _).drew)
      have HWI := Lib.hid hWI
      clear hWI hi1 hrest
      go_wp2
      go_region
      go_wp2
      go_ret3
      have e1 : M.Kn.widths k cs = ow := by rw [HWD.out, HRN.out]; simp [M.Kn.widths]
      have e2 : M.Kn.dat k cs = od := by rw [HDD.out, HRN.out]; simp [M.Kn.dat]
      have e3 : ow.length = cs.length := by rw [HOW.out, HI.out]
      have hgg := HWI.out.g
      rw [e1, e2, ← e3]
      exact ⟨⟨A9, c9, rfl, own_mono (own_g HWI.out.o9 (by repeat' (first | (with_reducible exact G.refl _) | (with_reducible assumption) | (with_reducible refine G.alloc ?_ _) | (with_reducible refine G.drew ?_) | (with_reducible refine G.drewN ?_ _) | (refine G.setCell ?_ (by first | (simp <;> done) | (simp <;> omega)) _) | (with_reducible refine G.trans ?_ (by with_reducible assumption))))) (by omega)⟩, (by repeat' (first | (with_reducible exact G.refl _) | (with_reducible assumption) | (with_reducible refine G.alloc ?_ _) | (with_reducible refine G.drew ?_) | (with_reducible refine G.drewN ?_ _) | (refine G.setCell ?_ (by first | (simp <;> done) | (simp <;> omega)) _) | (with_reducible refine G.trans ?_ (by with_reducible assumption))))⟩
end
end Go.Proofs.YtlaijbkonapdbaaGreat
