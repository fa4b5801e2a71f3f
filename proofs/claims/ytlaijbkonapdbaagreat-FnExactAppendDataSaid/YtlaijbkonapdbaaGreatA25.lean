/-
  FnExactAppendDataSaid is proved: for every input FnExactAppendData returns true, and each argument reads afterwards as it read before; no conditions. Part 25 of 25.
-/
import Derived.Test.YtlaijbkonapdbaaGreatA24
import Derived.Test.YtlaijbkonapdbaaGreatRows
import Derived.ProofKit
import Derived.OpenShut
import Derived.Lib.SmallJoins

set_option linter.all false

namespace Go.Proofs.YtlaijbkonapdbaaGreat
open Go.RowKit
attribute [local go_sem] grow_cell grow_frozen conv_one conv_two
theorem AnyForm.of {b : M.Bl} (h : b.form = true) : AnyForm b := by
  intro n hn
  rw [M.Bl.form_iff] at h ⊢
  exact ⟨⟨hn, h.1.2⟩, h.2⟩
theorem compress_pos {k : M.Kn} (hk : k.V) {d : M.Bytes} (hd : M.Kn.fits k.s.c d) : 1 ≤ (M.Kn.compress k d).length := by
  have h1 := (M.Kn.enc_len (M.Kn.greedyCodes k d) k hk (M.Kn.greedyCodes_ok hk hd).1).2
  have h2 : 1 ≤ (M.Kn.greedyCodes k d).length := by simp [M.Kn.greedyCodes]
  unfold M.Kn.compress
  rw [M.packB_length]
  omega
theorem AnyForm.mk {k : M.Kn} (hk : k.V) (m : Nat) {d : M.Bytes} (h0 : d ≠ []) (hl : d.length ≤ 64) : AnyForm (M.mkBl k m d) := by
  intro n hn
  have h1 : 1 ≤ d.length := by
    cases d with
    | nil => exact absurd rfl h0
    | cons => simp
  rw [M.Bl.form_iff]
  unfold M.mkBl
  split
  · rename_i h
    exact ⟨⟨hn, h1, hl⟩, by simp only [Bool.false_eq_true, if_false]; exact ⟨compress_pos hk h.1, h.2⟩⟩
  · exact ⟨⟨hn, h1, hl⟩, by simp⟩
theorem split_form {k : M.Kn} (hk : k.V) (n : Nat) (hn1 : n ≠ 0) (hn : n ≤ 64) : ∀ (m : Nat) (d : M.Bytes), d.length ≤ m → ∀ b ∈ M.split k n d, AnyForm b := by
  intro m
  induction m with
  | zero =>
    intro d hd b hb
    have : d = [] := List.eq_nil_of_length_eq_zero (by omega)
    subst this
    rw [M.split_nil] at hb; simp at hb
  | succ m ih =>
    intro d hd b hb
    by_cases h0 : d = []
    · subst h0; rw [M.split_nil] at hb; simp at hb
    · rw [M.split_cons k n d h0 hn1] at hb
      have h1 : 1 ≤ d.length := by
        cases d with
        | nil => exact absurd rfl h0
        | cons => simp
      rcases List.mem_cons.1 hb with rfl | hb
      · refine AnyForm.mk hk 0 (fun e => ?_) (by rw [List.length_take]; omega)
        have := congrArg List.length e
        rw [List.length_take, List.length_nil] at this; omega
      · exact ih (d.drop n) (by rw [List.length_drop]; omega) b hb
section
variable (s : M.St) (hs : s.Ok) (d : M.Bytes) (b : ByteArray) (hb : bs b = d) (hz : b.size ≤ 10000000) (st : ByteArray) (hst : st.size ≤ 10000000) (y : ByteArray) (hy : y.size ≤ 10000000) (n : Int) (w : World)
include hs hb hz hst hy
set_option maxRecDepth 4000 in
set_option maxHeartbeats 4000000 in
theorem v_AppendData_impl : Calls Tryz.prog 7 #[stV s, .string b, .string st, .string y, .int .i64 n] w fun e w' => e = .returned (resD (appD s d (bs st) (bs y) n)) ∧ G w w' := by
  have HB := Lib.hid hb
  have hd : b.size = d.length := by rw [bs_size, hb]
  clear hb
  by_cases hno : ¬ (b.size ≤ 2000 ∧ M.Kn.fits s.c d) ∨ M.blocks (bs st) = none
  · have HNO := Lib.hid hno
    have HR : Hid (appD s d (bs st) (bs y) n = none) := by
      show _ = _; unfold appD
      cases hbl : M.blocks (bs st) with
      | none => rfl
      | some bl =>
        simp only []
        rw [if_neg]
        rcases hno with h | h
        · rw [← hd]; exact fun h2 => h h2.1.1
        · rw [hbl] at h; cases h
    clear hno hd
    go_enter Tryz.func7, Tryz.ntmps7
    go_wp2_with (first | (go_at_call 15; refine (v_startEdit_no s hs d b HB.out (by omega) st (by omega) _ HNO.out).mono ?_; rintro e w' ⟨rfl, h1⟩; obtain ⟨hch1, hfh1⟩ := gcell h1; try (have hzh1 : w.heap.size < w'.heap.size := by have := h1.size; (try simp at this); omega); try (have hyh1 : w.heap.size + 1 < w'.heap.size := by have := h1.size; (try simp at this); omega)) | fail)
    go_ret2
    refine ⟨?_, (by repeat' (first | (with_reducible exact G.refl _) | (with_reducible assumption) | (with_reducible refine G.alloc ?_ _) | (with_reducible refine G.drew ?_) | (with_reducible refine G.drewN ?_ _) | (refine G.setCell ?_ (by first | (simp <;> done) | (simp <;> omega)) _) | (with_reducible refine G.trans ?_ (by with_reducible assumption))))⟩
    rw [HR.out]; rfl
  · have hfit : b.size ≤ 2000 ∧ M.Kn.fits s.c d := Decidable.not_not.1 (fun h => hno (Or.inl h))
    obtain ⟨bl, hbl⟩ : ∃ bl, M.blocks (bs st) = some bl := by
      cases h : M.blocks (bs st) with
      | none => exact absurd (Or.inr h) hno
      | some bl => exact ⟨bl, rfl⟩
    have HBL := Lib.hid hbl
    have HF := Lib.hid hfit
    obtain ⟨hf1, hf2, hf3⟩ := M.blocks_form hbl
    have hkv := M.Kn.learnK_V (M.start_V hs) (d := d) hfit.2
    obtain ⟨k, hk⟩ : ∃ k, M.Kn.learnK (M.start s) d = k := ⟨_, rfl⟩
    have HK := Lib.hid hk
    rw [hk] at hkv
    have HV := Lib.hid hkv.1
    by_cases hroom : (1 ≤ n ∧ n ≤ 64) ∧ y.size ≤ 2000 ∧ (y.size : Int) ≤ n * 40
    · obtain ⟨⟨hn1, hn2⟩, hy2, hy3⟩ := hroom
      obtain ⟨nn, hnn⟩ : ∃ nn : Nat, n = nn := ⟨n.toNat, by omega⟩
      subst hnn
      have hn3 : 1 ≤ nn := by omega
      have hn4 : nn ≤ 64 := by omega
      obtain ⟨sp, hsp⟩ : ∃ sp, M.split k nn (bs y) = sp := ⟨_, rfl⟩
      have hspf := M.split_facts k nn (by omega) hn4 (bs y).length (bs y) (Nat.le_refl _)
      have hspa := split_form hkv.1 nn (by omega) hn4 (bs y).length (bs y) (Nat.le_refl _)
      rw [hsp] at hspa
      rw [hsp, ← bs_size] at hspf
      obtain ⟨sf1, sf2, sf3⟩ := hspf
      have hspl : sp.length ≤ 40 := by
        rw [sf2]
        have : (y.size + nn - 1) / nn < 41 := by rw [Nat.div_lt_iff_lt_mul (by omega)]; omega
        omega
      obtain ⟨q, hq⟩ : ∃ q, decide ((bl ++ sp).length ≤ 40 ∧ M.sizes (bl ++ sp) ≤ 2000) = q := ⟨_, rfl⟩
      have HR : Hid (appD s d (bs st) (bs y) nn = if q then some (M.texts 0 (bl ++ sp)) else none) := by
        show _ = _; unfold appD; rw [hbl]; simp only [Int.toNat_natCast]; rw [hk, hsp, if_pos]
        · rw [← hq]; by_cases h : (bl ++ sp).length ≤ 40 ∧ M.sizes (bl ++ sp) ≤ 2000 <;> simp only [h, if_true, if_false, decide_true, decide_false, Bool.false_eq_true] <;> rfl
        · rw [← hd, ← bs_size]; exact ⟨⟨hfit, by omega⟩, by omega⟩
      have hl : (bl ++ sp).length ≤ 100 := by rw [List.length_append]; omega
      have HZ : Hid (∀ p ∈ bl ++ sp, AnyForm p) := by
        intro p hp; rw [List.mem_append] at hp
        rcases hp with h | h
        · exact AnyForm.of (hf1 p h)
        · exact hspa p h
      have HRES : Hid (∀ A c W, Rds W 4 A (bl.length + sp.length) (cBl bl ++ cBl sp) → Calls Tryz.prog 17 #[.slice A (bl.length + sp.length) c] W fun e w' => e = .returned (.tuple #[if q then S (M.texts 0 (bl ++ sp)) else .string ⟨#[]⟩, .bool q]) ∧ G W w') := by
        intro A c W hr
        have := v_makeContainer (bl ++ sp) hl HZ.out A c W (by rw [List.length_append, cBl_append]; exact hr) q hq
        rw [List.length_append] at this
        exact this
      have HQ := Lib.hid hq
      have HSP := Lib.hid hsp
      have HN : Hid (1 ≤ (nn : Int) ∧ (nn : Int) ≤ 64) := ⟨hn1, hn2⟩
      clear hno hbl hd hfit hf1 sf1 sf2 sf3 hq hsp hspa hkv hk
      go_enter Tryz.func7, Tryz.ntmps7
      go_upto_region 2 with (first | (go_at_call 15; refine (v_startEdit s hs d b HB.out (by omega) st (by omega) _ HF.out bl HBL.out).mono ?_; rintro e w' ⟨⟨A, c, A', c', rfl, hR1, hR2⟩, h1⟩; rw [HK.out] at hR1 ⊢) | fail)
      refine wp_gen (fun W => G w W ∧ W.heap[w'.heap.size]? = some (.cells #[.int .i64 k.s.ord, .int .i64 k.s.lit, .int .i64 k.s.most, .slice A k.ps.length c, .int .i64 k.base, .int .i64 k.last] 40 (0, 0)) ∧ W.ownsRow w.heap.size 98 2 (.slice A k.ps.length c) k.ps.length (cP k.ps) ∧ W.ownsRow w.heap.size 46 4 (.slice A' bl.length c') bl.length (cBl bl)) ⟨(by repeat' (first | (with_reducible exact G.refl _) | (with_reducible assumption) | (with_reducible refine G.alloc ?_ _) | (with_reducible refine G.drew ?_) | (with_reducible refine G.drewN ?_ _) | (refine G.setCell ?_ (by first | (simp <;> done) | (simp <;> omega)) _) | (with_reducible refine G.trans ?_ (by with_reducible assumption)))), alloc_at _ _ _ rfl, own_g (own_mono hR1 (by simp)) ((G.refl w').alloc _), own_g (own_mono hR2 (by simp)) ((G.refl w').alloc _)⟩ ?_
      rintro W2 ⟨hG2, hb2, hR3, hR4⟩
      obtain ⟨k9, kf, k0, k1, k2, k3, k4, k5⟩ := row6 hb2
      clear hR1 hR2
      go_wp2_with (first | (go_at_call 16; refine (v_newBlocks k HV.out A c _ (Rds.own hR3) (fun a ha => own_lt hR3 (ob_slice.2 ⟨a, ha, rfl⟩)) nn HN.out y hy2 hy3).mono ?_; rintro e w5 ⟨⟨A5, c5, rfl, hR5⟩, h5⟩; rw [Int.toNat_natCast, HSP.out] at hR5 ⊢) | (at_builtin; refine app 31 31 Tryz.underlying31 block_info (by rfl) (by omega) rfl (.tmp 35) (.tmp 36) (by rfl) w.heap.size _ bl.length (cBl bl) (by rfl) (own_g hR4 h5) _ sp.length (cBl sp) (by rfl) (Src.ofRds Tryz.underlying31 (Rds.own hR5) (cBl_one _)) (by omega) (by have := h5.size; have := hG2.size; omega) ?_; intro v3 w3 hown3 hgw3 hatw3; have hG3 := G.grown (a := w) ((by repeat' (first | (with_reducible exact G.refl _) | (with_reducible assumption) | (with_reducible refine G.alloc ?_ _) | (with_reducible refine G.drew ?_) | (with_reducible refine G.drewN ?_ _) | (refine G.setCell ?_ (by first | (simp <;> done) | (simp <;> omega)) _) | (with_reducible refine G.trans ?_ (by with_reducible assumption))))) hgw3 (fun g h => own_base hR4 h); obtain ⟨A3, c3, rfl⟩ := own_form hown3) | (go_at_call 17; refine (HRES.out A3 c3 _ (Rds.own hown3)).mono ?_; rintro e w' ⟨rfl, h6⟩; obtain ⟨hch6, hfh6⟩ := gcell h6; try (have hzh6 : w.heap.size < w'.heap.size := by have := h6.size; (try simp at this); omega); try (have hyh6 : w.heap.size + 1 < w'.heap.size := by have := h6.size; (try simp at this); omega)) | fail)
      all_goals
        go_ret2
        refine ⟨?_, (by repeat' (first | (with_reducible exact G.refl _) | (with_reducible assumption) | (with_reducible refine G.alloc ?_ _) | (with_reducible refine G.drew ?_) | (with_reducible refine G.drewN ?_ _) | (refine G.setCell ?_ (by first | (simp <;> done) | (simp <;> omega)) _) | (with_reducible refine G.trans ?_ (by with_reducible assumption))))⟩
        rw [HR.out]
        by_cases hq9 : q = true
        all_goals first | (rw [if_pos hq9]; rfl) | (rw [if_neg hq9]; rfl) | contradiction
    · have HNO := Lib.hid hroom
      have HR : Hid (appD s d (bs st) (bs y) n = none) := by
        show _ = _; unfold appD; rw [hbl]; simp only []
        rw [if_neg]
        rw [← bs_size]
        intro h; apply hroom; exact ⟨h.1.2, by omega, by omega⟩
      clear hno hd hbl hfit hf1 hkv hk hroom
      go_enter Tryz.func7, Tryz.ntmps7
      go_upto_region 2 with (first | (go_at_call 15; refine (v_startEdit s hs d b HB.out (by omega) st (by omega) _ HF.out bl HBL.out).mono ?_; rintro e w' ⟨⟨A, c, A', c', rfl, hR1, hR2⟩, h1⟩; rw [HK.out] at hR1 ⊢) | fail)
      refine wp_gen (fun W => G w W ∧ W.heap[w'.heap.size]? = some (.cells #[.int .i64 k.s.ord, .int .i64 k.s.lit, .int .i64 k.s.most, .slice A k.ps.length c, .int .i64 k.base, .int .i64 k.last] 40 (0, 0))) ⟨(by repeat' (first | (with_reducible exact G.refl _) | (with_reducible assumption) | (with_reducible refine G.alloc ?_ _) | (with_reducible refine G.drew ?_) | (with_reducible refine G.drewN ?_ _) | (refine G.setCell ?_ (by first | (simp <;> done) | (simp <;> omega)) _) | (with_reducible refine G.trans ?_ (by with_reducible assumption)))), alloc_at _ _ _ rfl⟩ ?_
      rintro W2 ⟨hG2, hb2⟩
      obtain ⟨k9, kf, k0, k1, k2, k3, k4, k5⟩ := row6 hb2
      go_wp2_with (first | (go_at_call 16; refine (v_newBlocks_no k A c _ n y (by omega) HNO.out).mono ?_; rintro e w' ⟨rfl, h5⟩; obtain ⟨hch5, hfh5⟩ := gcell h5; try (have hzh5 : w.heap.size < w'.heap.size := by have := h5.size; (try simp at this); omega); try (have hyh5 : w.heap.size + 1 < w'.heap.size := by have := h5.size; (try simp at this); omega)) | fail)
      go_ret2
      refine ⟨?_, (by repeat' (first | (with_reducible exact G.refl _) | (with_reducible assumption) | (with_reducible refine G.alloc ?_ _) | (with_reducible refine G.drew ?_) | (with_reducible refine G.drewN ?_ _) | (refine G.setCell ?_ (by first | (simp <;> done) | (simp <;> omega)) _) | (with_reducible refine G.trans ?_ (by with_reducible assumption))))⟩
      rw [HR.out]; rfl
end
end Go.Proofs.YtlaijbkonapdbaaGreat

namespace Go.Proofs.YtlaijbkonapdbaaGreat
open Go.RowKit
attribute [local go_sem] grow_cell grow_frozen conv_one conv_two
set_option maxHeartbeats 1000000 in
theorem c_AppendData_impl_bad (o l m : Int) (ho : M.okS o l m = false) (b st y : ByteArray) (n : Int) (w : World) : Calls Tryz.prog 7 #[.agg #[.int .i64 o, .int .i64 l, .int .i64 m], .string b, .string st, .string y, .int .i64 n] w fun e w' => e = .returned (.tuple #[.string ⟨#[]⟩, .bool false]) ∧ G w w' := by
  have HO := Lib.hid ho
  clear ho
  go_enter Tryz.func7, Tryz.ntmps7
  go_wp2_with (first | (go_at_call 15; refine (c_startEdit_bad o l m HO.out b st _).mono ?_; rintro e w' ⟨rfl, h1⟩; obtain ⟨hch1, hfh1⟩ := gcell h1; try (have hzh1 : w.heap.size < w'.heap.size := by have := h1.size; (try simp at this); omega); try (have hyh1 : w.heap.size + 1 < w'.heap.size := by have := h1.size; (try simp at this); omega)) | fail)
  go_ret2
  exact ⟨rfl, (by repeat' (first | (with_reducible exact G.refl _) | (with_reducible assumption) | (with_reducible refine G.alloc ?_ _) | (with_reducible refine G.drew ?_) | (with_reducible refine G.drewN ?_ _) | (refine G.setCell ?_ (by first | (simp <;> done) | (simp <;> omega)) _) | (with_reducible refine G.trans ?_ (by with_reducible assumption))))⟩
theorem c_toSetting (o l m : Int) (w : World) : Calls Tryz.prog 6 #[.agg #[.int .i64 o, .int .i64 l, .int .i64 m]] w fun e w' => e = .returned (.agg #[.int .i64 o, .int .i64 l, .int .i64 m]) ∧ G w w' := by
  go_enter Tryz.func6, Tryz.ntmps6
  go_wp2
  refine bodyPost_ret (results_cells rfl _ _ (w.heap.size + 1) [.int .i64 o, .int .i64 l, .int .i64 m] _ rfl (fun j v hv => by
    match j, hv with
    | 0, hv => simp at hv; subst hv; go_cell
    | 1, hv => simp at hv; subst hv; go_cell
    | 2, hv => simp at hv; subst hv; go_cell) Tryz.underlying26 rfl (by kernel_rfl)) rfl ?_
  exact ⟨rfl, (by repeat' (first | (with_reducible exact G.refl _) | (with_reducible assumption) | (with_reducible refine G.alloc ?_ _) | (with_reducible refine G.drew ?_) | (with_reducible refine G.drewN ?_ _) | (refine G.setCell ?_ (by first | (simp <;> done) | (simp <;> omega)) _) | (with_reducible refine G.trans ?_ (by with_reducible assumption))))⟩
/-- a string and whether it is one -/
def SBx (r : Option M.Bytes) : ByteArray × Bool := match r with | some x => (⟨x.toArray⟩, true) | none => (⟨#[]⟩, false)
theorem resD_SBx (r : Option M.Bytes) : resD r = .tuple #[.string (SBx r).1, .bool (SBx r).2] := by cases r <;> rfl
/-- the two functions give the same string and the same word -/
def Same (f g : FuncId) (args : Array Value) : Prop := ∃ (x : ByteArray) (q : Bool), (∀ w, Calls Tryz.prog f args w fun e w' => e = .returned (.tuple #[.string x, .bool q]) ∧ G w w') ∧ (∀ w, Calls Tryz.prog g args w fun e w' => e = .returned (.tuple #[.string x, .bool q]) ∧ G w w')
theorem Same.ofD {f g : FuncId} {args : Array Value} (r : Option M.Bytes) (h1 : ∀ w, Calls Tryz.prog f args w fun e w' => e = .returned (resD r) ∧ G w w') (h2 : ∀ w, Calls Tryz.prog g args w fun e w' => e = .returned (resD r) ∧ G w w') : Same f g args := by
  rw [resD_SBx] at h1 h2
  exact ⟨_, _, h1, h2⟩
theorem same_AppendData (o l m : Int) (b st y : ByteArray) (hb : b.size ≤ 1048576) (hst : st.size ≤ 1048576) (hy : y.size ≤ 1048576) (n : Int) :
    Same 5 7 #[.agg #[.int .i64 o, .int .i64 l, .int .i64 m], .string b, .string st, .string y, .int .i64 n] := by
  cases ho : M.okS o l m with
  | false => exact ⟨_, _, fun w => v_AppendData_bad o l m ho b st y (by omega) n w, fun w => c_AppendData_impl_bad o l m ho b st y n w⟩
  | true =>
    obtain ⟨s, hs, rfl, rfl, rfl⟩ := M.okS_St ho
    exact Same.ofD _ (fun w => v_AppendData_spec s hs (bs b) b rfl (by omega) st (by omega) y (by omega) n w) (fun w => v_AppendData_impl s hs (bs b) b rfl (by omega) st (by omega) y (by omega) n w)
set_option maxRecDepth 4000 in
set_option maxHeartbeats 2000000 in
theorem law_AppendData (o l m : Int) (b st y : ByteArray) (n : Int) (w : World) (h1 : b.size ≤ 9223372036854775807) (h2 : st.size ≤ 9223372036854775807) (h3 : y.size ≤ 9223372036854775807) :
    Calls Tryz.prog 3 #[.agg #[.int .i64 o, .int .i64 l, .int .i64 m], .string b, .string st, .string y, .int .i64 n] w fun e w' => e = .returned (.bool true) ∧ G w w' := by
  by_cases hb : b.size ≤ 1048576
  · by_cases hst : st.size ≤ 1048576
    · by_cases hy : y.size ≤ 1048576
      · obtain ⟨x, q, HS, HI⟩ := same_AppendData o l m b st y hb hst hy n
        have HS := Lib.hid HS
        have HI := Lib.hid HI
        have e1 : (x.toList == x.toList) = true := by simp
        have e2 : (x.toList != x.toList) = false := by simp
        have e3 : (q != q) = false := by simp
        go_enter Tryz.func3, Tryz.ntmps3
        go_wp2_with (first | (go_at_call 6; refine (c_toSetting o l m _).mono ?_; rintro e w' ⟨rfl, ha⟩; obtain ⟨hcha, hfha⟩ := gcell ha; try (have hzha : w.heap.size < w'.heap.size := by have := ha.size; (try simp at this); omega); try (have hyha : w.heap.size + 1 < w'.heap.size := by have := ha.size; (try simp at this); omega)) | (go_at_call 5; refine (HS.out _).mono ?_; rintro e w' ⟨rfl, hb1⟩; obtain ⟨hchb1, hfhb1⟩ := gcell hb1; try (have hzhb1 : w.heap.size < w'.heap.size := by have := hb1.size; (try simp at this); omega); try (have hyhb1 : w.heap.size + 1 < w'.heap.size := by have := hb1.size; (try simp at this); omega)) | (go_at_call 7; refine (HI.out _).mono ?_; rintro e w' ⟨rfl, hc1⟩; obtain ⟨hchc1, hfhc1⟩ := gcell hc1; try (have hzhc1 : w.heap.size < w'.heap.size := by have := hc1.size; (try simp at this); omega); try (have hyhc1 : w.heap.size + 1 < w'.heap.size := by have := hc1.size; (try simp at this); omega)) | fail)
        go_ret
        exact ⟨rfl, (by repeat' (first | (with_reducible exact G.refl _) | (with_reducible assumption) | (with_reducible refine G.alloc ?_ _) | (with_reducible refine G.drew ?_) | (with_reducible refine G.drewN ?_ _) | (refine G.setCell ?_ (by first | (simp <;> done) | (simp <;> omega)) _) | (with_reducible refine G.trans ?_ (by with_reducible assumption))))⟩
      · go_enter Tryz.func3, Tryz.ntmps3
        go_wp2
        go_ret
        exact ⟨rfl, (by repeat' (first | (with_reducible exact G.refl _) | (with_reducible assumption) | (with_reducible refine G.alloc ?_ _) | (with_reducible refine G.drew ?_) | (with_reducible refine G.drewN ?_ _) | (refine G.setCell ?_ (by first | (simp <;> done) | (simp <;> omega)) _) | (with_reducible refine G.trans ?_ (by with_reducible assumption))))⟩
    · go_enter Tryz.func3, Tryz.ntmps3
      go_wp2
      go_ret
      exact ⟨rfl, (by repeat' (first | (with_reducible exact G.refl _) | (with_reducible assumption) | (with_reducible refine G.alloc ?_ _) | (with_reducible refine G.drew ?_) | (with_reducible refine G.drewN ?_ _) | (refine G.setCell ?_ (by first | (simp <;> done) | (simp <;> omega)) _) | (with_reducible refine G.trans ?_ (by with_reducible assumption))))⟩
  · go_enter Tryz.func3, Tryz.ntmps3
    go_wp2
    go_ret
    exact ⟨rfl, (by repeat' (first | (with_reducible exact G.refl _) | (with_reducible assumption) | (with_reducible refine G.alloc ?_ _) | (with_reducible refine G.drew ?_) | (with_reducible refine G.drewN ?_ _) | (refine G.setCell ?_ (by first | (simp <;> done) | (simp <;> omega)) _) | (with_reducible refine G.trans ?_ (by with_reducible assumption))))⟩
end Go.Proofs.YtlaijbkonapdbaaGreat

namespace Go.Proofs.YtlaijbkonapdbaaGreat
open Go.ChangeShapes Go.WideShapes Go.ChangeAt Go.RowKit

section
variable {H : Type} {enc : TypeId × Value → H} {P : Program}
theorem post_below {f : Func} {s : ChangeSpec} {apart fresh handsOn again : Bool} {W W' : World} {args : Array Value} {v : Value} {ds gs : List (DataW H)} {before pa pv : List MemPlace}
    (hW : DataW.Whole enc P f.params.toList s.vars apart W args.toList ds gs before)
    (hres : ∀ (b : Nat) (sp : Nat → Bool) (hd : Bool), DataW.TrodAll enc P W' b sp hd f.resultTypes.toList (v.resultList f.resultTypes.size) (s.fn H (ds ++ gs)).results [])
    (hargs : ∀ sp : Nat → Bool, (∀ p ∈ before, sp p.block = true) → DataW.TrodAll enc P W' 0 sp true f.params.toList args.toList (s.fn H (ds ++ gs)).args pa)
    (hvars : ∀ sp : Nat → Bool, (∀ p ∈ before, sp p.block = true) → DataW.TrodVars enc P W' sp s.vars (s.fn H (ds ++ gs)).vars pv)
    (hps : before = pa ++ pv) (hb : Below W.heap.size W W')
    (hok : ∀ (j : Nat) (t : TypeId) (r : Value), f.resultTypes[j]? = some t → (v.resultList f.resultTypes.size)[j]? = some r → Value.okWide P W' .any 0 t r) :
    s.post enc P f apart fresh handsOn again W args v W' := by
  have hlt : ∀ p ∈ before, p.block < W.heap.size := fun p hp => hW.lt p hp
  have hold : ∀ p ∈ before, (fun b => decide (b < W.heap.size)) p.block = true := fun p hp => by simpa using hlt p hp
  refine ⟨ds, gs, before, [], pa, pv, hW, hres _ _ _, hargs _ hold, hvars _ hold, World.keptBut_mono (fun p hp => ⟨hp, ?_⟩) (hb.frame (· ∈ before)), fun _ => ?_⟩
  · rw [hps, List.mem_append] at hp
    exact Or.inr hp
  · obtain ⟨_, _, _, _, _, hz, hn⟩ := hW
    refine ⟨hok, _, _, ([] ++ pa) ++ pv, ⟨[] ++ pa, pv, trodAll_append (hargs _ (fun _ _ => rfl)) (hres _ _ _), hvars _ (fun _ _ => rfl), rfl, ?_, ?_⟩, ?_⟩
    · intro b off hp
      have hin : MemPlace.cell b off ∈ before := by rw [hps]; simpa using hp
      rw [hb.frozen (hlt _ hin)]
      exact hz b off hin
    · intro ha
      have := hn ha
      rw [hps] at this
      simpa using this
    · intro p hp _
      rw [hps]
      simpa using hp
end
section
variable {H : Type} {enc : TypeId × Value → H} {w : World} {base : Nat} {spare : Nat → Bool} {held : Bool}
set_option maxRecDepth 100000 in
theorem open_setting {r : Reach} {b0 : Nat} {v : Value} {d : DataW H} {p : List MemPlace} (hv : Value.okWide Tryz.prog w r b0 23 v) (h : DataW.Trod enc Tryz.prog w base spare held 23 v d p) :
    ∃ o l m : Int, v = .agg #[.int .i64 o, .int .i64 l, .int .i64 m] ∧ d = .agg [.lit (.int .i64 o), .lit (.int .i64 l), .lit (.int .i64 m)] ∧ p = [] ∧ (Lit.int .i64 o).wf = true ∧ (Lit.int .i64 l).wf = true ∧ (Lit.int .i64 m).wf = true := by
  obtain ⟨v0, v1, v2, y0, y1, y2, n, rfl, rfl, rfl, h0, h1, h2⟩ := Joins.open_agg3 Tryz.underlying23 (by kernel_rfl) (by kernel_rfl) hv h
  obtain ⟨a0, e0, x0, w0⟩ := DataW.trod_int Tryz.underlying3 h0
  obtain ⟨a1, e1, x1, w1⟩ := DataW.trod_int Tryz.underlying3 h1
  obtain ⟨a2, e2, x2, w2⟩ := DataW.trod_int Tryz.underlying3 h2
  simp at e0 e1 e2
  subst e0 e1 e2 x0 x1 x2
  exact ⟨a0, a1, a2, rfl, rfl, rfl, w0, w1, w2⟩
theorem trod_i {n : Int} (h : (Lit.int .i64 n).wf = true) : ∃ k, DataW.trod enc Tryz.prog w base spare held k 3 [.int .i64 n] = some (.lit (.int .i64 n), []) :=
  ⟨1, by simp [DataW.trod, Tryz.underlying3, h]⟩
set_option maxRecDepth 100000 in
theorem shut_setting {o l m : Int} (w0 : (Lit.int .i64 o).wf = true) (w1 : (Lit.int .i64 l).wf = true) (w2 : (Lit.int .i64 m).wf = true) :
    DataW.Trod enc Tryz.prog w base spare held 23 (.agg #[.int .i64 o, .int .i64 l, .int .i64 m]) (.agg [.lit (.int .i64 o), .lit (.int .i64 l), .lit (.int .i64 m)]) [] := by
  have h := Joins.shut_agg3 (enc := enc) (w := w) (base := base) (spare := spare) (held := held) (v0 := .int .i64 o) (v1 := .int .i64 l) (v2 := .int .i64 m) (y0 := (.lit (.int .i64 o), [])) (y1 := (.lit (.int .i64 l), [])) (y2 := (.lit (.int .i64 m), [])) Tryz.underlying23 (by kernel_rfl) (by kernel_rfl) (trod_i w0) (trod_i w1) (trod_i w2)
  exact h
end
theorem own_debug : ownKnob Tryz.prog.godebug = none := by kernel_rfl
end Go.Proofs.YtlaijbkonapdbaaGreat

namespace Go.Proofs.YtlaijbkonapdbaaGreat.fnExactAppendData
open Go.ChangeShapes Go.WideShapes Go.ChangeAt Go.RowKit

set_option maxRecDepth 100000 in
theorem lifted (os : Os) (started : os.Started) (H : Type) (enc : TypeId × Value → H) :
    ReturnsInHanded {} Tryz.checked os 3 .any (Rows.fnExactAppendDataSpec.pre6 enc Tryz.prog Tryz.f3 Rows.fnExactAppendDataRow.domain false) (Rows.fnExactAppendDataSpec.post enc Tryz.prog Tryz.f3 false true false false) := by
  refine returnsInHanded_of_change (C := Tryz.checked) own_debug started (by kernel_rfl) Tryz.func3
    (ChangeSpec.witness6 (enc := enc) (C := Tryz.checked) false ⟨#[], #[.agg #[.int .i64 0, .int .i64 0, .int .i64 0], .string ⟨#[]⟩, .string ⟨#[]⟩, .string ⟨#[]⟩, .int .i64 0], []⟩ 8 (by kernel_rfl) (by kernel_rfl) (by kernel_rfl) (by kernel_rfl)) ?_
  intro W base args ds gs before hval0 hW hcnd _
  have hval : ∀ (j : Nat) t v, Tryz.f3.params[j]? = some t → args[j]? = some v → Value.okWide Tryz.prog W .any base t v := hval0
  have hW' := hW
  obtain ⟨p, q, hA0, hV, rfl, hfz, hnd⟩ := hW
  have hA : DataW.TrodAll enc Tryz.prog W 0 (fun _ => true) true Tryz.f3.params.toList args.toList ds p := hA0
  rw [Tryz.params3] at hA hval
  obtain ⟨v0, vs0, d0, ds0, p0, q0, hargs, rfl, rfl, h0, r0⟩ := trodAll_cons hA
  obtain ⟨v1, vs1, d1, ds1, p1, q1, rfl, rfl, rfl, h1, r1⟩ := trodAll_cons r0
  obtain ⟨v2, vs2, d2, ds2, p2, q2, rfl, rfl, rfl, h2, r2⟩ := trodAll_cons r1
  obtain ⟨v3, vs3, d3, ds3, p3, q3, rfl, rfl, rfl, h3, r3⟩ := trodAll_cons r2
  obtain ⟨v4, vs4, d4, ds4, p4, q4, rfl, rfl, rfl, h4, r4⟩ := trodAll_cons r3
  obtain ⟨rfl, rfl, rfl⟩ := trodAll_nil r4
  obtain rfl : args = #[v0, v1, v2, v3, v4] := by cases args; simp_all
  obtain ⟨rfl, rfl⟩ := trodVars_none hV
  obtain ⟨o, l, m, rfl, rfl, rfl, wo, wl, wm⟩ := open_setting (hval 0 23 v0 rfl rfl) h0
  obtain ⟨s1, rfl, rfl, rfl, z1⟩ := ChangeMaps.open_string Tryz.underlying9 (hval 1 9 v1 rfl rfl) h1
  obtain ⟨s2, rfl, rfl, rfl, z2⟩ := ChangeMaps.open_string Tryz.underlying9 (hval 2 9 v2 rfl rfl) h2
  obtain ⟨s3, rfl, rfl, rfl, z3⟩ := ChangeMaps.open_string Tryz.underlying9 (hval 3 9 v3 rfl rfl) h3
  obtain ⟨n, rfl, rfl, rfl, wn⟩ := open_int Tryz.underlying3 (hval 4 3 v4 rfl rfl) h4
  clear hA0 hval0
  simp only [List.append_nil] at hW'
  refine (law_AppendData o l m s1 s2 s3 n W (by unfold maxLen at z1; omega) (by unfold maxLen at z2; omega) (by unfold maxLen at z3; omega)).mono fun e W' ⟨he, hg⟩ => ?_
  subst he
  exact ⟨_, rfl, post_below (pa := []) (pv := []) hW' (fun _ _ _ => (trodAll_cons_mk (shut_bool Tryz.underlying4 _) trodAll_mk0))
    (fun sp _ => (trodAll_cons_mk (shut_setting wo wl wm) (trodAll_cons_mk (ChangeMaps.shut_string Tryz.underlying9 z1) (trodAll_cons_mk (ChangeMaps.shut_string Tryz.underlying9 z2) (trodAll_cons_mk (ChangeMaps.shut_string Tryz.underlying9 z3) (trodAll_cons_mk (shut_int Tryz.underlying3 wn) trodAll_mk0))))))
    (fun _ _ => rfl) rfl hg (ok_one (by kernel_rfl) rfl (okWide_bool_mk Tryz.underlying4 _))⟩

theorem over : Rows.fnExactAppendDataRow.holds Tryz.pinned (OpenSpec.ofChange Rows.fnExactAppendDataSpec) :=
  OpenClaim.holds_of_wide 3 Tryz.f3 rfl rfl rfl rfl rfl rfl rfl ⟨rfl, rfl, rfl, rfl, rfl⟩ rfl rfl rfl rfl rfl (by kernel_rfl) Tryz.func3 (by kernel_rfl)
    (of_decide_eq_true (by kernel_rfl)) (by unfold Func.isWrapper; first | (rw [if_pos (by decide +kernel)]; kernel_rfl) | (rw [if_neg (by decide +kernel)]; exact ⟨rfl, rfl⟩))
    (fun os started H enc _ => lifted os started H enc)
end Go.Proofs.YtlaijbkonapdbaaGreat.fnExactAppendData
namespace Go.Proofs.YtlaijbkonapdbaaGreat
/-- the statement -/
theorem fnExactAppendData_holds : Rows.FnExactAppendDataSaid := fnExactAppendData.over
end Go.Proofs.YtlaijbkonapdbaaGreat
