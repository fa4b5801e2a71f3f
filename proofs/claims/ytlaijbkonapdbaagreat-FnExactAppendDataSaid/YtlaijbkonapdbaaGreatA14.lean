/-
  FnExactAppendDataSaid is proved: for every input FnExactAppendData returns true, and each argument reads afterwards as it read before; no conditions. Part 14 of 25.
-/
import Derived.Test.YtlaijbkonapdbaaGreatA13

set_option linter.all false

namespace Go.Proofs.YtlaijbkonapdbaaGreat
open Go.RowKit
attribute [local go_sem] grow_cell grow_frozen conv_one
theorem cf_nodeOf : ∀ args w, (callFunc 101 args).run Tryz.prog w = .ok (.enter 101 args) w := by intro args w; go_simp
theorem cf_learn : ∀ args w, (callFunc 98 args).run Tryz.prog w = .ok (.enter 98 args) w := by intro args w; go_simp
section
variable (k : M.Kn) (hk : k.V) (w : FW) (W : World) (g : Nat) (A0 : Option Addr) (c0 : Nat) (An : Option Addr) (cn : Nat) (Ai : Option Addr) (ci : Nat) (hT : TB w W g k A0 c0 An cn Ai ci)
include hk hT
set_option maxRecDepth 4000 in
set_option maxHeartbeats 4000000 in
theorem v_follow_clear : Calls Tryz.prog 82 #[.pointer (some ⟨g, 0, none⟩), .int .i64 k.s.c] W fun e W' => e = .returned (.tuple #[]) ∧ ∃ A0 c0 An cn Ai ci, TB w W' g k.cleared A0 c0 An cn Ai ci := by
  have hlt := hT.lt
  obtain ⟨q0, q1, q2, q3, q4, q5, q6, q7⟩ := hT.cells
  have hc256 := hk.s.c256
  go_enter Tryz.func82, Tryz.ntmps82
  go_wp2_with (first | (go_at_call 80; refine (v_ClearCode k.s hk.s _).mono ?_; rintro e w' ⟨rfl, h1⟩; obtain ⟨hch1, hfh1⟩ := gcell h1; have hs1 := h1.size) | (go_at_call 99; refine (v_forget k (TV.of hk) hk.base w _ g A0 c0 An cn Ai ci (hT.up (by repeat' (first | (with_reducible exact G.refl _) | (with_reducible assumption) | (with_reducible refine G.alloc ?_ _) | (with_reducible refine G.drew ?_) | (with_reducible refine G.drewN ?_ _) | (refine G.setCell ?_ (by first | (simp <;> done) | (simp <;> omega)) _) | (with_reducible refine G.trans ?_ (by with_reducible assumption)))))).mono ?_; rintro e w' ⟨rfl, A0', c0', An', cn', Ai', ci', hT2⟩; have hf2 := hT2.fz; have hl2 := hT2.lt; obtain ⟨r0, r1, r2, r3, r4, r5, r6, r7⟩ := hT2.cells; have hT3 := hT2.setLast (-1)) | fail)
  refine bodyPost_ret (results_none rfl _ _ _) rfl ?_
  exact ⟨rfl, A0', c0', An', cn', Ai', ci', hT3⟩

set_option maxRecDepth 4000 in
set_option maxHeartbeats 4000000 in
theorem v_follow_stay (code : Nat) (hcc : code ≠ k.s.c) (hcl : code ≤ 4000) (hgr : k.grows = false) : Calls Tryz.prog 82 #[.pointer (some ⟨g, 0, none⟩), .int .i64 code] W fun e W' => e = .returned (.tuple #[]) ∧ ∃ A0 c0 An cn Ai ci, TB w W' g (k.after code) A0 c0 An cn Ai ci := by
  have hlt := hT.lt
  obtain ⟨q0, q1, q2, q3, q4, q5, q6, q7⟩ := hT.cells
  have hc256 := hk.s.c256
  have hf0 := hT.fz
  have HGR := Lib.hid hgr
  have hne : ((code : Int) == (k.s.c : Int)) = false := by simp; omega
  have hlast := hT.setLast (code : Int)
  have HK : Hid (k.after code = { k with last := (code : Int) }) := by show _ = _; unfold M.Kn.after; rw [hgr]; rfl
  clear hgr
  go_enter Tryz.func82, Tryz.ntmps82
  go_wp2_with (first | (go_at_call 80; refine (v_ClearCode k.s hk.s _).mono ?_; rintro e w' ⟨rfl, h1⟩; obtain ⟨hch1, hfh1⟩ := gcell h1; have hs1 := h1.size; have hT1 := hT.up (W2 := w') h1; obtain ⟨r0, r1, r2, r3, r4, r5, r6, r7⟩ := hT1.cells; have hl1 := hT1.lt) | (go_at_call 83; refine (v_grows k hk A0 c0 _ false HGR.out).mono ?_; rintro e w' ⟨rfl, h2⟩; obtain ⟨hch2, hfh2⟩ := gcell h2; have hs2 := h2.size; have hT2 := hT.up (W2 := w') (by repeat' (first | (with_reducible exact G.refl _) | (with_reducible assumption) | (with_reducible refine G.alloc ?_ _) | (with_reducible refine G.drew ?_) | (with_reducible refine G.drewN ?_ _) | (refine G.setCell ?_ (by first | (simp <;> done) | (simp <;> omega)) _) | (with_reducible refine G.trans ?_ (by with_reducible assumption)))); have hf2 := hT2.fz; have hl2 := hT2.lt; obtain ⟨t0, t1, t2, t3, t4, t5, t6, t7⟩ := hT2.cells; have hT3 := hT2.setLast (code : Int)) | fail)
  go_end0
  rw [HK.out]
  exact ⟨rfl, A0, c0, An, cn, Ai, ci, hT3⟩

set_option maxRecDepth 8000 in
set_option maxHeartbeats 4000000 in
theorem v_follow_grow (code : Nat) (hcc : code ≠ k.s.c) (hcl : code ≤ 4000) (hgr : k.grows = true) (hfo : k.follows code) : Calls Tryz.prog 82 #[.pointer (some ⟨g, 0, none⟩), .int .i64 code] W fun e W' => e = .returned (.tuple #[]) ∧ ∃ A0 c0 An cn Ai ci, TB w W' g (k.after code) A0 c0 An cn Ai ci := by
  have hlt := hT.lt
  have hTV := TV.of hk
  have hc256 := hk.s.c256
  have HGR := Lib.hid hgr
  have hne : ((code : Int) == (k.s.c : Int)) = false := by simp; omega
  have hgl := hk.grows_last hgr
  obtain ⟨l, hl⟩ : ∃ l : Nat, k.last = l := ⟨k.last.toNat, by omega⟩
  have hlt2 : k.last.toNat = l := by omega
  have hn : k.nxt ≤ k.s.l := by unfold M.Kn.grows at hgr; simp at hgr; exact hgr.2
  obtain ⟨fr, hfr⟩ : ∃ fr, fr = if code = k.nxt then l else code := ⟨_, rfl⟩
  have hhas : M.has k.s.c k.ps.length fr := by
    rw [hfr]; split
    · rw [← hlt2]; exact hgl.1
    · rename_i h
      rcases (hk.follows_iff code).1 hfo with h3 | h3
      · exact h3
      · exact absurd h3.2 h
  obtain ⟨hq, hw⟩ := M.nodeI_spec hk.pv hc256 hhas
  have hne2 := (M.wd_ne k.s.c k.ps hk.pv fr hhas).1
  have hfirst : (M.nd (kL k) (M.nodeI k.s.c k.ps fr)).first = ((k.A code).headD 0).toNat := by
    have e1 : (M.nd (kL k) (M.nodeI k.s.c k.ps fr)).first = ((((kL k)[M.nodeI k.s.c k.ps fr]'hq).1).headD 0).toNat := by
      simp only [M.nd, M.getD_of_lt (kL k) _ hq]
    rw [e1]
    have e2 : ((kL k)[M.nodeI k.s.c k.ps fr]'hq).1 = M.wd k.s.c (M.words k.s.c k.ps) fr := hw
    rw [e2]
    unfold M.Kn.A
    rw [hfr] at hne2 ⊢
    split
    · rename_i h
      rw [if_pos h] at hne2
      rw [hlt2]
      show _ = (((M.wd k.s.c (M.words k.s.c k.ps) l) ++ List.take 1 (M.wd k.s.c (M.words k.s.c k.ps) l)).headD 0).toNat
      cases hh : M.wd k.s.c (M.words k.s.c k.ps) l with
      | nil => rw [hh] at hne2; simp at hne2
      | cons a t => rfl
    · rfl
  obtain ⟨byt, hbyt⟩ : ∃ byt, ((k.A code).headD 0).toNat = byt := ⟨_, rfl⟩
  have hbc : byt < k.s.c := by
    rw [← hbyt, ← hfirst]
    have e1 : (M.nd (kL k) (M.nodeI k.s.c k.ps fr)).first = ((((kL k)[M.nodeI k.s.c k.ps fr]'hq).1).headD 0).toNat := by
      simp only [M.nd, M.getD_of_lt (kL k) _ hq]
    rw [e1]
    have e2 : ((kL k)[M.nodeI k.s.c k.ps fr]'hq).1 = M.wd k.s.c (M.words k.s.c k.ps) fr := hw
    rw [e2]
    have h9 := (M.wd_ne k.s.c k.ps hk.pv fr hhas).2.2 hc256
    cases hh : M.wd k.s.c (M.words k.s.c k.ps) fr with
    | nil => rw [hh] at hne2; simp at hne2
    | cons a t => exact h9 a (by rw [hh]; simp)
  rw [hbyt] at hfirst
  have hlen := (kL_len k hTV w W g A0 c0 An cn Ai ci hT).2
  have HKA : Hid (k.after code = { addP k (l, byt) with last := (code : Int) }) := by
    show _ = _; unfold M.Kn.after addP; rw [hgr, hbyt, hlt2]; rfl
  have hhasl : M.has k.s.c k.ps.length l := by rw [← hlt2]; exact hgl.1
  obtain ⟨gn, hAn, hgn, hcell⟩ := (Rds.own hT.on).at_ (by rw [M.nodesOf_length]; have := (kL_len k hTV w W g A0 c0 An cn Ai ci hT).1; have := hk.s.c2; omega)
  subst hAn
  obtain ⟨_, _, _, _, d4, _⟩ := cN_get _ _ _ (M.nodesOf_get (kL k) (M.nodeI k.s.c k.ps fr) hq)
  have e4 := hcell _ _ d4
  rw [hfirst] at e4
  have hqN : M.nodeI k.s.c k.ps fr < (kL k).length := hq
  have HQ : Hid (M.nodeI k.s.c k.ps fr < (M.LL k.s.c k.ps).length) := hq
  obtain ⟨q, hqe⟩ : ∃ q, M.nodeI k.s.c k.ps fr = q := ⟨_, rfl⟩
  rw [hqe] at e4 hqN
  have HQE := Lib.hid hqe
  have HFR : Hid (fr = if code = k.nxt then l else code) := hfr
  have HL := Lib.hid hl
  have HH := Lib.hid hhas
  have HHL := Lib.hid hhasl
  have hfrl : fr ≤ 4000 := by
    have := hk.nxt_le; have := hk.s.l1024
    unfold M.has at hhas; unfold M.Kn.nxt at *; omega
  have hll : l ≤ 4000 := by
    have := hk.nxt_le; have := hk.s.l1024
    unfold M.has at hhasl; unfold M.Kn.nxt at *; omega
  have hwb : IntKind.i64.wrap (byt : Int) = byt := IntWalk.i64_in _ ⟨by omega, by omega⟩
  have HT := Lib.hid hT
  have hT0 : TG w W g k.s k.ps k.base l (M.nodesOf (kL k)) (M.idxs k.s.c k.ps) A0 c0 (some ⟨gn, 0, none⟩) cn Ai ci := by rw [← hl]; exact hT
  have hgr2 := hT0
  obtain ⟨q0, q1, q2, q3, q4, q5, q6, q7⟩ := hT0.cells
  rw [M.nodesOf_length] at q6
  have HGW : Hid (∀ W', Calls Tryz.prog 83 #[.agg #[.int .i64 k.s.ord, .int .i64 k.s.lit, .int .i64 k.s.most, .slice A0 k.ps.length c0, .int .i64 k.base, .int .i64 l]] W' fun e w' => e = .returned (.bool true) ∧ G W' w') := by
    intro W'; have h := v_grows k hk A0 c0 W' true hgr; unfold knV at h; rw [hl] at h; exact h
  have HNW : Hid (∀ W', Calls Tryz.prog 100 #[.agg #[.int .i64 k.s.ord, .int .i64 k.s.lit, .int .i64 k.s.most, .slice A0 k.ps.length c0, .int .i64 k.base, .int .i64 l]] W' fun e w' => e = .returned (.int .i64 k.nxt) ∧ G W' w') := by
    intro W'; have h := v_nextWord2 k hTV A0 c0 W'; unfold knV at h; rw [hl] at h; exact h
  have hGw : G w.w W := hT.fr
  clear hgr hgl hlt2 hfr hw hfirst hcell d4 hq hqe hne2 hhas hhasl hbyt hgr2 hT
  by_cases hnx : code = k.nxt
  · obtain rfl : fr = l := by rw [HFR.out, if_pos hnx]
    have HNX := Lib.hid hnx
    have hen : ((code : Int) == (k.nxt : Int)) = true := by simp [hnx]
    clear hnx hl
    have hf0 := hT0.fz
    go_enter Tryz.func82, Tryz.ntmps82
    go_upto_region 7 with (first | (go_at_call 80; refine (v_ClearCode k.s hk.s _).mono ?_; rintro e w' ⟨rfl, h1⟩; obtain ⟨hch1, hfh1⟩ := gcell h1; have hs1 := h1.size; have hz1 : g < w'.heap.size := (by omega)) | (go_at_call 83; refine (HGW.out _).mono ?_; rintro e w' ⟨rfl, h2⟩; obtain ⟨hch2, hfh2⟩ := gcell h2; have hs2 := h2.size; have hz2 : g < w'.heap.size := (by omega)) | (go_at_call 100; refine (HNW.out _).mono ?_; rintro e w' ⟨rfl, h3⟩; obtain ⟨hch3, hfh3⟩ := gcell h3; have hs3 := h3.size; have hz3 : g < w'.heap.size := (by omega)) | fail)
    rename World => w9
    refine wp_gen (fun W7 => G W W7) (by repeat' (first | (with_reducible exact G.refl _) | (with_reducible assumption) | (with_reducible refine G.alloc ?_ _) | (with_reducible refine G.drew ?_) | (with_reducible refine G.drewN ?_ _) | (refine G.setCell ?_ (by first | (simp <;> done) | (simp <;> omega)) _) | (with_reducible refine G.trans ?_ (by with_reducible assumption)))) ?_
    rintro W7 hG7
    have hs7 := hG7.size
    have hT7 := hT0.up hG7
    have hl7 := hT7.lt
    obtain ⟨hch7, hfh7⟩ := gcell hG7
    have e47 := (hG7.cell (p := ⟨gn, q * 6 + 4, none⟩) hgn).trans e4
    have hgn7 : gn < W7.heap.size := by omega
    obtain ⟨r0, r1, r2, r3, r4, r5, r6, r7⟩ := hT7.cells
    rw [M.nodesOf_length] at r6
    clear hch7 hfh7 h1 h2 h3 hch1 hfh1 hch2 hfh2 hch3 hfh3 q0 q1 q2 q3 q4 q5 q6 q7 hf0
    have hSz : w.w.heap.size ≤ W7.heap.size := (show G w.w W7 from (by repeat' (first | (with_reducible exact G.refl _) | (with_reducible assumption) | (with_reducible refine G.alloc ?_ _) | (with_reducible refine G.drew ?_) | (with_reducible refine G.drewN ?_ _) | (refine G.setCell ?_ (by first | (simp <;> done) | (simp <;> omega)) _) | (with_reducible refine G.trans ?_ (by with_reducible assumption))))).size
    refine wp_region_held_drew (S := fun w' => w.w.heap.size ≤ w'.heap.size ∧ g < w'.heap.size ∧ w'.cell? ⟨g, 5, none⟩ = some (.int .i64 fr)) (by kernel_rfl) ⟨hSz, hl7, r5⟩ (fun hHeld => ?_)
    (refine wpAnyH_take (i := 0) (v := ?_) (by simp only [List.getElem?_toArray, List.getElem?_cons_succ, List.getElem?_cons_zero]; rfl) (by kernel_rfl) (by kernel_rfl) (by kernel_rfl) (by exact fun _ _ _ h => h) (Or.inl ⟨by rfl, ?_⟩) (by assumption) ?_; rotate_left; (focus (intro wq hSw; (try dsimp only at hSw); go_simp; (try (with_reducible rfl)))); (try simp only [Act.put, List.setIfInBounds_toArray, List.set_cons_zero, List.set_cons_succ]))
    (refine wpAnyH_take (i := 1) (v := ?_) (by simp only [List.getElem?_toArray, List.getElem?_cons_succ, List.getElem?_cons_zero]; rfl) (by kernel_rfl) (by kernel_rfl) (by kernel_rfl) (by exact fun _ _ _ h => h) (Or.inl ⟨by rfl, ?_⟩) (by assumption) ?_; rotate_left; (focus (intro wq hSw; (try dsimp only at hSw); go_simp; (try (with_reducible rfl)))); (try simp only [Act.put, List.setIfInBounds_toArray, List.set_cons_zero, List.set_cons_succ]))
    (refine wpAnyH_take (i := 2) (v := ?_) (by simp only [List.getElem?_toArray, List.getElem?_cons_succ, List.getElem?_cons_zero]; rfl) (by kernel_rfl) (by kernel_rfl) (by kernel_rfl) (by exact fun _ _ _ h => h) (Or.inl ⟨by rfl, ?_⟩) (by assumption) ?_; rotate_left; (focus (intro wq hSw; (try dsimp only at hSw); go_simp; (try (with_reducible rfl)))); (try simp only [Act.put, List.setIfInBounds_toArray, List.set_cons_zero, List.set_cons_succ]))
    (refine wpAnyH_take (i := 3) (v := ?_) (by simp only [List.getElem?_toArray, List.getElem?_cons_succ, List.getElem?_cons_zero]; rfl) (by kernel_rfl) (by kernel_rfl) (by kernel_rfl) (by exact fun _ _ _ h => h) (Or.inl ⟨by rfl, ?_⟩) (by assumption) ?_; rotate_left; (focus (intro wq hSw; (try dsimp only at hSw); go_simp; (try (with_reducible rfl)))); (try simp only [Act.put, List.setIfInBounds_toArray, List.set_cons_zero, List.set_cons_succ]))
    (refine wpAnyH_take (i := 4) (v := ?_) (by simp only [List.getElem?_toArray, List.getElem?_cons_succ, List.getElem?_cons_zero]; rfl) (by kernel_rfl) (by kernel_rfl) (by kernel_rfl) (by exact fun _ _ _ h => h) (Or.inl ⟨by rfl, ?_⟩) (by assumption) ?_; rotate_left; (focus (intro wq hSw; (try dsimp only at hSw); go_simp; (try (with_reducible rfl)))); (try simp only [Act.put, List.setIfInBounds_toArray, List.set_cons_zero, List.set_cons_succ]))
    (refine wpAnyH_take (i := 5) (v := ?_) (by simp only [List.getElem?_toArray, List.getElem?_cons_succ, List.getElem?_cons_zero]; rfl) (by kernel_rfl) (by kernel_rfl) (by kernel_rfl) (by exact fun _ _ _ h => h) (Or.inl ⟨by rfl, ?_⟩) (by assumption) ?_; rotate_left; (focus (intro wq hSw; (try dsimp only at hSw); go_simp; (try (with_reducible rfl)))); (try simp only [Act.put, List.setIfInBounds_toArray, List.set_cons_zero, List.set_cons_succ]))
    (refine wpAnyH_take (i := 6) (v := ?_) (by simp only [List.getElem?_toArray, List.getElem?_cons_succ, List.getElem?_cons_zero]; rfl) (by kernel_rfl) (by kernel_rfl) (by kernel_rfl) (by exact fun _ _ _ h => h) (Or.inl ⟨by rfl, ?_⟩) (by assumption) ?_; rotate_left; (focus (intro wq hSw; (try dsimp only at hSw); go_simp; (try (with_reducible rfl)))); (try simp only [Act.put, List.setIfInBounds_toArray, List.set_cons_zero, List.set_cons_succ]))
    (refine wpAnyH_take (i := 7) (v := ?_) (by simp only [List.getElem?_toArray, List.getElem?_cons_succ, List.getElem?_cons_zero]; rfl) (by kernel_rfl) (by kernel_rfl) (by kernel_rfl) (by exact fun _ _ _ h => h) (Or.inl ⟨by rfl, ?_⟩) (by assumption) ?_; rotate_left; (focus (intro wq hSw; (try dsimp only at hSw); go_simp; (try (with_reducible rfl)))); (try simp only [Act.put, List.setIfInBounds_toArray, List.set_cons_zero, List.set_cons_succ]))
    (refine wpAnyH_take (i := 8) (v := ?_) (by simp only [List.getElem?_toArray, List.getElem?_cons_succ, List.getElem?_cons_zero]; rfl) (by kernel_rfl) (by kernel_rfl) (by kernel_rfl) (by exact fun _ _ _ h => h) (Or.inl ⟨by rfl, ?_⟩) (by assumption) ?_; rotate_left; (focus (intro wq hSw; (try dsimp only at hSw); go_simp; (try (with_reducible rfl)))); (try simp only [Act.put, List.setIfInBounds_toArray, List.set_cons_zero, List.set_cons_succ]))
    (refine wpAnyH_take (i := 10) (v := ?_) (by simp only [List.getElem?_toArray, List.getElem?_cons_succ, List.getElem?_cons_zero]; rfl) (by kernel_rfl) (by kernel_rfl) (by kernel_rfl) (by exact fun _ _ _ h => h) (Or.inl ⟨by rfl, ?_⟩) (by assumption) ?_; rotate_left; (focus (intro wq hSw; (try dsimp only at hSw); go_simp; (try (with_reducible rfl)))); (try simp only [Act.put, List.setIfInBounds_toArray, List.set_cons_zero, List.set_cons_succ]))
    (refine wpAnyH_take (i := 11) (v := ?_) (by simp only [List.getElem?_toArray, List.getElem?_cons_succ, List.getElem?_cons_zero]; rfl) (by kernel_rfl) (by kernel_rfl) (by kernel_rfl) (by exact fun _ _ _ h => h) (Or.inl ⟨by rfl, ?_⟩) (by assumption) ?_; rotate_left; (focus (intro wq hSw; (try dsimp only at hSw); go_simp; (try (with_reducible rfl)))); (try simp only [Act.put, List.setIfInBounds_toArray, List.set_cons_zero, List.set_cons_succ]))
    refine wpAnyH_ready (rs := [9, 12]) (by kernel_rfl) (by simp) ?_
    (refine AllReadyH.cons (by simp only [List.getElem?_toArray, List.getElem?_cons_succ, List.getElem?_cons_zero]; rfl) (fun K hK => ?_) ?_)
    · go_simp
      (refine hK.out _ _ ?_ (fun hHeld => ?_); (focus ((try dsimp only); exact ⟨hSz, hl7, r5⟩)); clear hK K; (try simp only [Act.put, List.setIfInBounds_toArray, List.set_cons_zero, List.set_cons_succ]))
      refine wpAnyH_ready (rs := [12]) (by kernel_rfl) (by simp) ?_
      (refine AllReadyH.cons (by simp only [List.getElem?_toArray, List.getElem?_cons_succ, List.getElem?_cons_zero]; rfl) (fun K hK => ?_) ?_)
      · (refine step_fn ?_ 101 #[.tmp 47, .tmp 48] #[100, 3] ?_ #[.pointer (some ⟨g, 0, none⟩), .int .i64 fr] ?_ cf_nodeOf ?_; exact rfl; exact rfl; (simp only [List.map_toArray, List.map_cons, List.map_nil, Act.eval]; rfl); refine (v_nodeOf k hTV w _ g A0 c0 _ cn Ai ci (HT.out.up (by repeat' (first | (with_reducible exact G.refl _) | (with_reducible assumption) | (with_reducible refine G.alloc ?_ _) | (with_reducible refine G.drew ?_) | (with_reducible refine G.drewN ?_ _) | (refine G.setCell ?_ (by first | (simp <;> done) | (simp <;> omega)) _) | (with_reducible refine G.trans ?_ (by with_reducible assumption))))) fr HH.out).mono ?_; rintro e wA ⟨rfl, h5⟩; rw [HQE.out]; obtain ⟨hch5, hfh5⟩ := gcell h5; have hs5 := h5.size; (try simp only [World.size_drew] at hs5); have hz5 : g < wA.heap.size := (by omega); have hz6 : gn < wA.heap.size := (by omega); have a4 := (h5.cell (p := ⟨gn, q * 6 + 4, none⟩) (by simp; omega)).trans e47; have a5 := (h5.cell (p := ⟨g, 5, none⟩) (by simp; omega)).trans r5; have a6 := (h5.cell (p := ⟨g, 6, none⟩) (by simp; omega)).trans r6; refine ⟨_, rfl, ?_⟩)
        (refine hK.out _ _ ?_ (fun hHeld => ?_); (focus ((try dsimp only); exact ⟨by have := h5.size; simp only [World.size_drew] at this; omega, hz5, a5⟩)); clear hK K; (try simp only [Act.put, List.setIfInBounds_toArray, List.set_cons_zero, List.set_cons_succ]))
        (refine wpAnyH_take (i := 13) (v := ?_) (by simp only [List.getElem?_toArray, List.getElem?_cons_succ, List.getElem?_cons_zero]; rfl) (by kernel_rfl) (by kernel_rfl) (by kernel_rfl) (by exact fun _ _ _ h => h) (Or.inl ⟨by rfl, ?_⟩) (by assumption) ?_; rotate_left; (focus (intro wq hSw; (try dsimp only at hSw); go_simp; (try (with_reducible rfl)))); (try simp only [Act.put, List.setIfInBounds_toArray, List.set_cons_zero, List.set_cons_succ]))
        (refine wpAnyH_take (i := 14) (v := ?_) (by simp only [List.getElem?_toArray, List.getElem?_cons_succ, List.getElem?_cons_zero]; rfl) (by kernel_rfl) (by kernel_rfl) (by kernel_rfl) (by exact fun _ _ _ h => h) (Or.inl ⟨by rfl, ?_⟩) (by assumption) ?_; rotate_left; (focus (intro wq hSw; (try dsimp only at hSw); go_simp; (try (with_reducible rfl)))); (try simp only [Act.put, List.setIfInBounds_toArray, List.set_cons_zero, List.set_cons_succ]))
        refine wpAnyH_ready (rs := [15]) (by kernel_rfl) (by simp) ?_
        (refine AllReadyH.cons (by simp only [List.getElem?_toArray, List.getElem?_cons_succ, List.getElem?_cons_zero]; rfl) (fun K hK => ?_) ?_)
        · go_simp
          (refine hK.out _ _ ?_ (fun hHeld => ?_); (focus ((try dsimp only); exact ⟨by have := h5.size; simp only [World.size_drew] at this; omega, hz5, a5⟩)); clear hK K; (try simp only [Act.put, List.setIfInBounds_toArray, List.set_cons_zero, List.set_cons_succ]))
          (refine wpAnyH_take (i := 16) (v := ?_) (by simp only [List.getElem?_toArray, List.getElem?_cons_succ, List.getElem?_cons_zero]; rfl) (by kernel_rfl) (by kernel_rfl) (by kernel_rfl) (by exact fun _ _ _ h => h) (Or.inl ⟨by rfl, ?_⟩) (by assumption) ?_; rotate_left; (focus (intro wq hSw; (try dsimp only at hSw); go_simp; (try (with_reducible rfl)))); (try simp only [Act.put, List.setIfInBounds_toArray, List.set_cons_zero, List.set_cons_succ]))
          (refine wpAnyH_take (i := 17) (v := ?_) (by simp only [List.getElem?_toArray, List.getElem?_cons_succ, List.getElem?_cons_zero]; rfl) (by kernel_rfl) (by kernel_rfl) (by kernel_rfl) (by exact fun _ _ _ h => h) (Or.inl ⟨by rfl, ?_⟩) (by assumption) ?_; rotate_left; (focus (intro wq hSw; (try dsimp only at hSw); go_simp; (try (with_reducible rfl)))); (try simp only [Act.put, List.setIfInBounds_toArray, List.set_cons_zero, List.set_cons_succ]))
          refine wpAnyH_ready (rs := [18]) (by kernel_rfl) (by simp) ?_
          (refine AllReadyH.cons (by simp only [List.getElem?_toArray, List.getElem?_cons_succ, List.getElem?_cons_zero]; rfl) (fun K hK => ?_) ?_)
          · (refine step_fn ?_ 98 #[.tmp 37, .tmp 54] #[100, 98] ?_ #[.pointer (some ⟨g, 0, none⟩), .agg #[.int .i64 fr, .int .i64 byt]] ?_ cf_learn ?_; exact rfl; exact rfl; (simp only [List.map_toArray, List.map_cons, List.map_nil, Act.eval]; rfl); refine (v_learn_impl k hTV w _ g A0 c0 _ cn Ai ci (HT.out.up (by repeat' (first | (with_reducible exact G.refl _) | (with_reducible assumption) | (with_reducible refine G.alloc ?_ _) | (with_reducible refine G.drew ?_) | (with_reducible refine G.drewN ?_ _) | (refine G.setCell ?_ (by first | (simp <;> done) | (simp <;> omega)) _) | (with_reducible refine G.trans ?_ (by with_reducible assumption))))) fr byt HHL.out hbc hn).mono ?_; rintro e wL ⟨rfl, A0', c0', An', cn', Ai', ci', hTL⟩; have hfL := hTL.fz; have hlL := hTL.lt; have hTS := hTL.setLast (code : Int); obtain ⟨t0, t1, t2, t3, t4, t5, t6, t7⟩ := hTL.cells; refine ⟨_, rfl, ?_⟩)
            (refine hK.out _ _ ?_ (fun hHeld => ?_); (focus ((try dsimp only); exact ⟨hTL.fr.size, hTL.lt, t5.trans (congrArg (fun z => some (Value.int .i64 z)) HL.out)⟩)); clear hK K; (try simp only [Act.put, List.setIfInBounds_toArray, List.set_cons_zero, List.set_cons_succ]))
            refine wpAnyH_done (by kernel_rfl) ?_ _
            go_wp2
            go_end0
            rw [HKA.out]
            exact ⟨rfl, A0', c0', An', cn', Ai', ci', hTS⟩
          exact AllReadyH.nil
        exact AllReadyH.nil
      exact AllReadyH.nil
    (refine AllReadyH.cons (by simp only [List.getElem?_toArray, List.getElem?_cons_succ, List.getElem?_cons_zero]; rfl) (fun K hK => ?_) ?_)
    · (refine step_fn ?_ 101 #[.tmp 47, .tmp 48] #[100, 3] ?_ #[.pointer (some ⟨g, 0, none⟩), .int .i64 fr] ?_ cf_nodeOf ?_; exact rfl; exact rfl; (simp only [List.map_toArray, List.map_cons, List.map_nil, Act.eval]; rfl); refine (v_nodeOf k hTV w _ g A0 c0 _ cn Ai ci (HT.out.up (by repeat' (first | (with_reducible exact G.refl _) | (with_reducible assumption) | (with_reducible refine G.alloc ?_ _) | (with_reducible refine G.drew ?_) | (with_reducible refine G.drewN ?_ _) | (refine G.setCell ?_ (by first | (simp <;> done) | (simp <;> omega)) _) | (with_reducible refine G.trans ?_ (by with_reducible assumption))))) fr HH.out).mono ?_; rintro e wA ⟨rfl, h5⟩; rw [HQE.out]; obtain ⟨hch5, hfh5⟩ := gcell h5; have hs5 := h5.size; (try simp only [World.size_drew] at hs5); have hz5 : g < wA.heap.size := (by omega); have hz6 : gn < wA.heap.size := (by omega); have a4 := (h5.cell (p := ⟨gn, q * 6 + 4, none⟩) (by simp; omega)).trans e47; have a5 := (h5.cell (p := ⟨g, 5, none⟩) (by simp; omega)).trans r5; have a6 := (h5.cell (p := ⟨g, 6, none⟩) (by simp; omega)).trans r6; refine ⟨_, rfl, ?_⟩)
      (refine hK.out _ _ ?_ (fun hHeld => ?_); (focus ((try dsimp only); exact ⟨by have := h5.size; simp only [World.size_drew] at this; omega, hz5, a5⟩)); clear hK K; (try simp only [Act.put, List.setIfInBounds_toArray, List.set_cons_zero, List.set_cons_succ]))
      refine wpAnyH_ready (rs := [9]) (by kernel_rfl) (by simp) ?_
      (refine AllReadyH.cons (by simp only [List.getElem?_toArray, List.getElem?_cons_succ, List.getElem?_cons_zero]; rfl) (fun K hK => ?_) ?_)
      · go_simp
        (refine hK.out _ _ ?_ (fun hHeld => ?_); (focus ((try dsimp only); exact ⟨by have := h5.size; simp only [World.size_drew] at this; omega, hz5, a5⟩)); clear hK K; (try simp only [Act.put, List.setIfInBounds_toArray, List.set_cons_zero, List.set_cons_succ]))
        (refine wpAnyH_take (i := 13) (v := ?_) (by simp only [List.getElem?_toArray, List.getElem?_cons_succ, List.getElem?_cons_zero]; rfl) (by kernel_rfl) (by kernel_rfl) (by kernel_rfl) (by exact fun _ _ _ h => h) (Or.inl ⟨by rfl, ?_⟩) (by assumption) ?_; rotate_left; (focus (intro wq hSw; (try dsimp only at hSw); go_simp; (try (with_reducible rfl)))); (try simp only [Act.put, List.setIfInBounds_toArray, List.set_cons_zero, List.set_cons_succ]))
        (refine wpAnyH_take (i := 14) (v := ?_) (by simp only [List.getElem?_toArray, List.getElem?_cons_succ, List.getElem?_cons_zero]; rfl) (by kernel_rfl) (by kernel_rfl) (by kernel_rfl) (by exact fun _ _ _ h => h) (Or.inl ⟨by rfl, ?_⟩) (by assumption) ?_; rotate_left; (focus (intro wq hSw; (try dsimp only at hSw); go_simp; (try (with_reducible rfl)))); (try simp only [Act.put, List.setIfInBounds_toArray, List.set_cons_zero, List.set_cons_succ]))
        refine wpAnyH_ready (rs := [15]) (by kernel_rfl) (by simp) ?_
        (refine AllReadyH.cons (by simp only [List.getElem?_toArray, List.getElem?_cons_succ, List.getElem?_cons_zero]; rfl) (fun K hK => ?_) ?_)
        · go_simp
          (refine hK.out _ _ ?_ (fun hHeld => ?_); (focus ((try dsimp only); exact ⟨by have := h5.size; simp only [World.size_drew] at this; omega, hz5, a5⟩)); clear hK K; (try simp only [Act.put, List.setIfInBounds_toArray, List.set_cons_zero, List.set_cons_succ]))
          (refine wpAnyH_take (i := 16) (v := ?_) (by simp only [List.getElem?_toArray, List.getElem?_cons_succ, List.getElem?_cons_zero]; rfl) (by kernel_rfl) (by kernel_rfl) (by kernel_rfl) (by exact fun _ _ _ h => h) (Or.inl ⟨by rfl, ?_⟩) (by assumption) ?_; rotate_left; (focus (intro wq hSw; (try dsimp only at hSw); go_simp; (try (with_reducible rfl)))); (try simp only [Act.put, List.setIfInBounds_toArray, List.set_cons_zero, List.set_cons_succ]))
          (refine wpAnyH_take (i := 17) (v := ?_) (by simp only [List.getElem?_toArray, List.getElem?_cons_succ, List.getElem?_cons_zero]; rfl) (by kernel_rfl) (by kernel_rfl) (by kernel_rfl) (by exact fun _ _ _ h => h) (Or.inl ⟨by rfl, ?_⟩) (by assumption) ?_; rotate_left; (focus (intro wq hSw; (try dsimp only at hSw); go_simp; (try (with_reducible rfl)))); (try simp only [Act.put, List.setIfInBounds_toArray, List.set_cons_zero, List.set_cons_succ]))
          refine wpAnyH_ready (rs := [18]) (by kernel_rfl) (by simp) ?_
          (refine AllReadyH.cons (by simp only [List.getElem?_toArray, List.getElem?_cons_succ, List.getElem?_cons_zero]; rfl) (fun K hK => ?_) ?_)
          · (refine step_fn ?_ 98 #[.tmp 37, .tmp 54] #[100, 98] ?_ #[.pointer (some ⟨g, 0, none⟩), .agg #[.int .i64 fr, .int .i64 byt]] ?_ cf_learn ?_; exact rfl; exact rfl; (simp only [List.map_toArray, List.map_cons, List.map_nil, Act.eval]; rfl); refine (v_learn_impl k hTV w _ g A0 c0 _ cn Ai ci (HT.out.up (by repeat' (first | (with_reducible exact G.refl _) | (with_reducible assumption) | (with_reducible refine G.alloc ?_ _) | (with_reducible refine G.drew ?_) | (with_reducible refine G.drewN ?_ _) | (refine G.setCell ?_ (by first | (simp <;> done) | (simp <;> omega)) _) | (with_reducible refine G.trans ?_ (by with_reducible assumption))))) fr byt HHL.out hbc hn).mono ?_; rintro e wL ⟨rfl, A0', c0', An', cn', Ai', ci', hTL⟩; have hfL := hTL.fz; have hlL := hTL.lt; have hTS := hTL.setLast (code : Int); obtain ⟨t0, t1, t2, t3, t4, t5, t6, t7⟩ := hTL.cells; refine ⟨_, rfl, ?_⟩)
            (refine hK.out _ _ ?_ (fun hHeld => ?_); (focus ((try dsimp only); exact ⟨hTL.fr.size, hTL.lt, t5.trans (congrArg (fun z => some (Value.int .i64 z)) HL.out)⟩)); clear hK K; (try simp only [Act.put, List.setIfInBounds_toArray, List.set_cons_zero, List.set_cons_succ]))
            refine wpAnyH_done (by kernel_rfl) ?_ _
            go_wp2
            go_end0
            rw [HKA.out]
            exact ⟨rfl, A0', c0', An', cn', Ai', ci', hTS⟩
          exact AllReadyH.nil
        exact AllReadyH.nil
      exact AllReadyH.nil
    exact AllReadyH.nil
  · obtain rfl : fr = code := by rw [HFR.out, if_neg hnx]
    have HNX := Lib.hid hnx
    have hen : ((fr : Int) == (k.nxt : Int)) = false := by simp; omega
    clear hnx hl
    have hf0 := hT0.fz
    go_enter Tryz.func82, Tryz.ntmps82
    go_upto_region 7 with (first | (go_at_call 80; refine (v_ClearCode k.s hk.s _).mono ?_; rintro e w' ⟨rfl, h1⟩; obtain ⟨hch1, hfh1⟩ := gcell h1; have hs1 := h1.size; have hz1 : g < w'.heap.size := (by omega)) | (go_at_call 83; refine (HGW.out _).mono ?_; rintro e w' ⟨rfl, h2⟩; obtain ⟨hch2, hfh2⟩ := gcell h2; have hs2 := h2.size; have hz2 : g < w'.heap.size := (by omega)) | (go_at_call 100; refine (HNW.out _).mono ?_; rintro e w' ⟨rfl, h3⟩; obtain ⟨hch3, hfh3⟩ := gcell h3; have hs3 := h3.size; have hz3 : g < w'.heap.size := (by omega)) | fail)
    rename World => w9
    refine wp_gen (fun W7 => G W W7) (by repeat' (first | (with_reducible exact G.refl _) | (with_reducible assumption) | (with_reducible refine G.alloc ?_ _) | (with_reducible refine G.drew ?_) | (with_reducible refine G.drewN ?_ _) | (refine G.setCell ?_ (by first | (simp <;> done) | (simp <;> omega)) _) | (with_reducible refine G.trans ?_ (by with_reducible assumption)))) ?_
    rintro W7 hG7
    have hs7 := hG7.size
    have hT7 := hT0.up hG7
    have hl7 := hT7.lt
    obtain ⟨hch7, hfh7⟩ := gcell hG7
    have e47 := (hG7.cell (p := ⟨gn, q * 6 + 4, none⟩) hgn).trans e4
    have hgn7 : gn < W7.heap.size := by omega
    obtain ⟨r0, r1, r2, r3, r4, r5, r6, r7⟩ := hT7.cells
    rw [M.nodesOf_length] at r6
    clear hch7 hfh7 h1 h2 h3 hch1 hfh1 hch2 hfh2 hch3 hfh3 q0 q1 q2 q3 q4 q5 q6 q7 hf0
    have hSz : w.w.heap.size ≤ W7.heap.size := (show G w.w W7 from (by repeat' (first | (with_reducible exact G.refl _) | (with_reducible assumption) | (with_reducible refine G.alloc ?_ _) | (with_reducible refine G.drew ?_) | (with_reducible refine G.drewN ?_ _) | (refine G.setCell ?_ (by first | (simp <;> done) | (simp <;> omega)) _) | (with_reducible refine G.trans ?_ (by with_reducible assumption))))).size
    refine wp_region_held_drew (S := fun w' => w.w.heap.size ≤ w'.heap.size ∧ g < w'.heap.size ∧ w'.cell? ⟨g, 5, none⟩ = some (.int .i64 l)) (by kernel_rfl) ⟨hSz, hl7, r5⟩ (fun hHeld => ?_)
    (refine wpAnyH_take (i := 0) (v := ?_) (by simp only [List.getElem?_toArray, List.getElem?_cons_succ, List.getElem?_cons_zero]; rfl) (by kernel_rfl) (by kernel_rfl) (by kernel_rfl) (by exact fun _ _ _ h => h) (Or.inl ⟨by rfl, ?_⟩) (by assumption) ?_; rotate_left; (focus (intro wq hSw; (try dsimp only at hSw); go_simp; (try (with_reducible rfl)))); (try simp only [Act.put, List.setIfInBounds_toArray, List.set_cons_zero, List.set_cons_succ]))
    (refine wpAnyH_take (i := 1) (v := ?_) (by simp only [List.getElem?_toArray, List.getElem?_cons_succ, List.getElem?_cons_zero]; rfl) (by kernel_rfl) (by kernel_rfl) (by kernel_rfl) (by exact fun _ _ _ h => h) (Or.inl ⟨by rfl, ?_⟩) (by assumption) ?_; rotate_left; (focus (intro wq hSw; (try dsimp only at hSw); go_simp; (try (with_reducible rfl)))); (try simp only [Act.put, List.setIfInBounds_toArray, List.set_cons_zero, List.set_cons_succ]))
    (refine wpAnyH_take (i := 2) (v := ?_) (by simp only [List.getElem?_toArray, List.getElem?_cons_succ, List.getElem?_cons_zero]; rfl) (by kernel_rfl) (by kernel_rfl) (by kernel_rfl) (by exact fun _ _ _ h => h) (Or.inl ⟨by rfl, ?_⟩) (by assumption) ?_; rotate_left; (focus (intro wq hSw; (try dsimp only at hSw); go_simp; (try (with_reducible rfl)))); (try simp only [Act.put, List.setIfInBounds_toArray, List.set_cons_zero, List.set_cons_succ]))
    (refine wpAnyH_take (i := 3) (v := ?_) (by simp only [List.getElem?_toArray, List.getElem?_cons_succ, List.getElem?_cons_zero]; rfl) (by kernel_rfl) (by kernel_rfl) (by kernel_rfl) (by exact fun _ _ _ h => h) (Or.inl ⟨by rfl, ?_⟩) (by assumption) ?_; rotate_left; (focus (intro wq hSw; (try dsimp only at hSw); go_simp; (try (with_reducible rfl)))); (try simp only [Act.put, List.setIfInBounds_toArray, List.set_cons_zero, List.set_cons_succ]))
    (refine wpAnyH_take (i := 4) (v := ?_) (by simp only [List.getElem?_toArray, List.getElem?_cons_succ, List.getElem?_cons_zero]; rfl) (by kernel_rfl) (by kernel_rfl) (by kernel_rfl) (by exact fun _ _ _ h => h) (Or.inl ⟨by rfl, ?_⟩) (by assumption) ?_; rotate_left; (focus (intro wq hSw; (try dsimp only at hSw); go_simp; (try (with_reducible rfl)))); (try simp only [Act.put, List.setIfInBounds_toArray, List.set_cons_zero, List.set_cons_succ]))
    (refine wpAnyH_take (i := 5) (v := ?_) (by simp only [List.getElem?_toArray, List.getElem?_cons_succ, List.getElem?_cons_zero]; rfl) (by kernel_rfl) (by kernel_rfl) (by kernel_rfl) (by exact fun _ _ _ h => h) (Or.inl ⟨by rfl, ?_⟩) (by assumption) ?_; rotate_left; (focus (intro wq hSw; (try dsimp only at hSw); go_simp; (try (with_reducible rfl)))); (try simp only [Act.put, List.setIfInBounds_toArray, List.set_cons_zero, List.set_cons_succ]))
    (refine wpAnyH_take (i := 6) (v := ?_) (by simp only [List.getElem?_toArray, List.getElem?_cons_succ, List.getElem?_cons_zero]; rfl) (by kernel_rfl) (by kernel_rfl) (by kernel_rfl) (by exact fun _ _ _ h => h) (Or.inl ⟨by rfl, ?_⟩) (by assumption) ?_; rotate_left; (focus (intro wq hSw; (try dsimp only at hSw); go_simp; (try (with_reducible rfl)))); (try simp only [Act.put, List.setIfInBounds_toArray, List.set_cons_zero, List.set_cons_succ]))
    (refine wpAnyH_take (i := 7) (v := ?_) (by simp only [List.getElem?_toArray, List.getElem?_cons_succ, List.getElem?_cons_zero]; rfl) (by kernel_rfl) (by kernel_rfl) (by kernel_rfl) (by exact fun _ _ _ h => h) (Or.inl ⟨by rfl, ?_⟩) (by assumption) ?_; rotate_left; (focus (intro wq hSw; (try dsimp only at hSw); go_simp; (try (with_reducible rfl)))); (try simp only [Act.put, List.setIfInBounds_toArray, List.set_cons_zero, List.set_cons_succ]))
    (refine wpAnyH_take (i := 8) (v := ?_) (by simp only [List.getElem?_toArray, List.getElem?_cons_succ, List.getElem?_cons_zero]; rfl) (by kernel_rfl) (by kernel_rfl) (by kernel_rfl) (by exact fun _ _ _ h => h) (Or.inl ⟨by rfl, ?_⟩) (by assumption) ?_; rotate_left; (focus (intro wq hSw; (try dsimp only at hSw); go_simp; (try (with_reducible rfl)))); (try simp only [Act.put, List.setIfInBounds_toArray, List.set_cons_zero, List.set_cons_succ]))
    (refine wpAnyH_take (i := 10) (v := ?_) (by simp only [List.getElem?_toArray, List.getElem?_cons_succ, List.getElem?_cons_zero]; rfl) (by kernel_rfl) (by kernel_rfl) (by kernel_rfl) (by exact fun _ _ _ h => h) (Or.inl ⟨by rfl, ?_⟩) (by assumption) ?_; rotate_left; (focus (intro wq hSw; (try dsimp only at hSw); go_simp; (try (with_reducible rfl)))); (try simp only [Act.put, List.setIfInBounds_toArray, List.set_cons_zero, List.set_cons_succ]))
    (refine wpAnyH_take (i := 11) (v := ?_) (by simp only [List.getElem?_toArray, List.getElem?_cons_succ, List.getElem?_cons_zero]; rfl) (by kernel_rfl) (by kernel_rfl) (by kernel_rfl) (by exact fun _ _ _ h => h) (Or.inl ⟨by rfl, ?_⟩) (by assumption) ?_; rotate_left; (focus (intro wq hSw; (try dsimp only at hSw); go_simp; (try (with_reducible rfl)))); (try simp only [Act.put, List.setIfInBounds_toArray, List.set_cons_zero, List.set_cons_succ]))
    refine wpAnyH_ready (rs := [9, 12]) (by kernel_rfl) (by simp) ?_
    (refine AllReadyH.cons (by simp only [List.getElem?_toArray, List.getElem?_cons_succ, List.getElem?_cons_zero]; rfl) (fun K hK => ?_) ?_)
    · go_simp
      (refine hK.out _ _ ?_ (fun hHeld => ?_); (focus ((try dsimp only); exact ⟨hSz, hl7, r5⟩)); clear hK K; (try simp only [Act.put, List.setIfInBounds_toArray, List.set_cons_zero, List.set_cons_succ]))
      refine wpAnyH_ready (rs := [12]) (by kernel_rfl) (by simp) ?_
      (refine AllReadyH.cons (by simp only [List.getElem?_toArray, List.getElem?_cons_succ, List.getElem?_cons_zero]; rfl) (fun K hK => ?_) ?_)
      · (refine step_fn ?_ 101 #[.tmp 47, .tmp 48] #[100, 3] ?_ #[.pointer (some ⟨g, 0, none⟩), .int .i64 fr] ?_ cf_nodeOf ?_; exact rfl; exact rfl; (simp only [List.map_toArray, List.map_cons, List.map_nil, Act.eval]; rfl); refine (v_nodeOf k hTV w _ g A0 c0 _ cn Ai ci (HT.out.up (by repeat' (first | (with_reducible exact G.refl _) | (with_reducible assumption) | (with_reducible refine G.alloc ?_ _) | (with_reducible refine G.drew ?_) | (with_reducible refine G.drewN ?_ _) | (refine G.setCell ?_ (by first | (simp <;> done) | (simp <;> omega)) _) | (with_reducible refine G.trans ?_ (by with_reducible assumption))))) fr HH.out).mono ?_; rintro e wA ⟨rfl, h5⟩; rw [HQE.out]; obtain ⟨hch5, hfh5⟩ := gcell h5; have hs5 := h5.size; (try simp only [World.size_drew] at hs5); have hz5 : g < wA.heap.size := (by omega); have hz6 : gn < wA.heap.size := (by omega); have a4 := (h5.cell (p := ⟨gn, q * 6 + 4, none⟩) (by simp; omega)).trans e47; have a5 := (h5.cell (p := ⟨g, 5, none⟩) (by simp; omega)).trans r5; have a6 := (h5.cell (p := ⟨g, 6, none⟩) (by simp; omega)).trans r6; refine ⟨_, rfl, ?_⟩)
        (refine hK.out _ _ ?_ (fun hHeld => ?_); (focus ((try dsimp only); exact ⟨by have := h5.size; simp only [World.size_drew] at this; omega, hz5, a5⟩)); clear hK K; (try simp only [Act.put, List.setIfInBounds_toArray, List.set_cons_zero, List.set_cons_succ]))
        (refine wpAnyH_take (i := 13) (v := ?_) (by simp only [List.getElem?_toArray, List.getElem?_cons_succ, List.getElem?_cons_zero]; rfl) (by kernel_rfl) (by kernel_rfl) (by kernel_rfl) (by exact fun _ _ _ h => h) (Or.inl ⟨by rfl, ?_⟩) (by assumption) ?_; rotate_left; (focus (intro wq hSw; (try dsimp only at hSw); go_simp; (try (with_reducible rfl)))); (try simp only [Act.put, List.setIfInBounds_toArray, List.set_cons_zero, List.set_cons_succ]))
        (refine wpAnyH_take (i := 14) (v := ?_) (by simp only [List.getElem?_toArray, List.getElem?_cons_succ, List.getElem?_cons_zero]; rfl) (by kernel_rfl) (by kernel_rfl) (by kernel_rfl) (by exact fun _ _ _ h => h) (Or.inl ⟨by rfl, ?_⟩) (by assumption) ?_; rotate_left; (focus (intro wq hSw; (try dsimp only at hSw); go_simp; (try (with_reducible rfl)))); (try simp only [Act.put, List.setIfInBounds_toArray, List.set_cons_zero, List.set_cons_succ]))
        refine wpAnyH_ready (rs := [15]) (by kernel_rfl) (by simp) ?_
        (refine AllReadyH.cons (by simp only [List.getElem?_toArray, List.getElem?_cons_succ, List.getElem?_cons_zero]; rfl) (fun K hK => ?_) ?_)
        · go_simp
          (refine hK.out _ _ ?_ (fun hHeld => ?_); (focus ((try dsimp only); exact ⟨by have := h5.size; simp only [World.size_drew] at this; omega, hz5, a5⟩)); clear hK K; (try simp only [Act.put, List.setIfInBounds_toArray, List.set_cons_zero, List.set_cons_succ]))
          (refine wpAnyH_take (i := 16) (v := ?_) (by simp only [List.getElem?_toArray, List.getElem?_cons_succ, List.getElem?_cons_zero]; rfl) (by kernel_rfl) (by kernel_rfl) (by kernel_rfl) (by exact fun _ _ _ h => h) (Or.inl ⟨by rfl, ?_⟩) (by assumption) ?_; rotate_left; (focus (intro wq hSw; (try dsimp only at hSw); go_simp; (try (with_reducible rfl)))); (try simp only [Act.put, List.setIfInBounds_toArray, List.set_cons_zero, List.set_cons_succ]))
          (refine wpAnyH_take (i := 17) (v := ?_) (by simp only [List.getElem?_toArray, List.getElem?_cons_succ, List.getElem?_cons_zero]; rfl) (by kernel_rfl) (by kernel_rfl) (by kernel_rfl) (by exact fun _ _ _ h => h) (Or.inl ⟨by rfl, ?_⟩) (by assumption) ?_; rotate_left; (focus (intro wq hSw; (try dsimp only at hSw); go_simp; (try (with_reducible rfl)))); (try simp only [Act.put, List.setIfInBounds_toArray, List.set_cons_zero, List.set_cons_succ]))
          refine wpAnyH_ready (rs := [18]) (by kernel_rfl) (by simp) ?_
          (refine AllReadyH.cons (by simp only [List.getElem?_toArray, List.getElem?_cons_succ, List.getElem?_cons_zero]; rfl) (fun K hK => ?_) ?_)
          · (refine step_fn ?_ 98 #[.tmp 37, .tmp 54] #[100, 98] ?_ #[.pointer (some ⟨g, 0, none⟩), .agg #[.int .i64 l, .int .i64 byt]] ?_ cf_learn ?_; exact rfl; exact rfl; (simp only [List.map_toArray, List.map_cons, List.map_nil, Act.eval]; rfl); refine (v_learn_impl k hTV w _ g A0 c0 _ cn Ai ci (HT.out.up (by repeat' (first | (with_reducible exact G.refl _) | (with_reducible assumption) | (with_reducible refine G.alloc ?_ _) | (with_reducible refine G.drew ?_) | (with_reducible refine G.drewN ?_ _) | (refine G.setCell ?_ (by first | (simp <;> done) | (simp <;> omega)) _) | (with_reducible refine G.trans ?_ (by with_reducible assumption))))) l byt HHL.out hbc hn).mono ?_; rintro e wL ⟨rfl, A0', c0', An', cn', Ai', ci', hTL⟩; have hfL := hTL.fz; have hlL := hTL.lt; have hTS := hTL.setLast (fr : Int); obtain ⟨t0, t1, t2, t3, t4, t5, t6, t7⟩ := hTL.cells; refine ⟨_, rfl, ?_⟩)
            (refine hK.out _ _ ?_ (fun hHeld => ?_); (focus ((try dsimp only); exact ⟨hTL.fr.size, hTL.lt, t5.trans (congrArg (fun z => some (Value.int .i64 z)) HL.out)⟩)); clear hK K; (try simp only [Act.put, List.setIfInBounds_toArray, List.set_cons_zero, List.set_cons_succ]))
            refine wpAnyH_done (by kernel_rfl) ?_ _
            go_wp2
            go_end0
            rw [HKA.out]
            exact ⟨rfl, A0', c0', An', cn', Ai', ci', hTS⟩
          exact AllReadyH.nil
        exact AllReadyH.nil
      exact AllReadyH.nil
    (refine AllReadyH.cons (by simp only [List.getElem?_toArray, List.getElem?_cons_succ, List.getElem?_cons_zero]; rfl) (fun K hK => ?_) ?_)
    · (refine step_fn ?_ 101 #[.tmp 47, .tmp 48] #[100, 3] ?_ #[.pointer (some ⟨g, 0, none⟩), .int .i64 fr] ?_ cf_nodeOf ?_; exact rfl; exact rfl; (simp only [List.map_toArray, List.map_cons, List.map_nil, Act.eval]; rfl); refine (v_nodeOf k hTV w _ g A0 c0 _ cn Ai ci (HT.out.up (by repeat' (first | (with_reducible exact G.refl _) | (with_reducible assumption) | (with_reducible refine G.alloc ?_ _) | (with_reducible refine G.drew ?_) | (with_reducible refine G.drewN ?_ _) | (refine G.setCell ?_ (by first | (simp <;> done) | (simp <;> omega)) _) | (with_reducible refine G.trans ?_ (by with_reducible assumption))))) fr HH.out).mono ?_; rintro e wA ⟨rfl, h5⟩; rw [HQE.out]; obtain ⟨hch5, hfh5⟩ := gcell h5; have hs5 := h5.size; (try simp only [World.size_drew] at hs5); have hz5 : g < wA.heap.size := (by omega); have hz6 : gn < wA.heap.size := (by omega); have a4 := (h5.cell (p := ⟨gn, q * 6 + 4, none⟩) (by simp; omega)).trans e47; have a5 := (h5.cell (p := ⟨g, 5, none⟩) (by simp; omega)).trans r5; have a6 := (h5.cell (p := ⟨g, 6, none⟩) (by simp; omega)).trans r6; refine ⟨_, rfl, ?_⟩)
      (refine hK.out _ _ ?_ (fun hHeld => ?_); (focus ((try dsimp only); exact ⟨by have := h5.size; simp only [World.size_drew] at this; omega, hz5, a5⟩)); clear hK K; (try simp only [Act.put, List.setIfInBounds_toArray, List.set_cons_zero, List.set_cons_succ]))
      refine wpAnyH_ready (rs := [9]) (by kernel_rfl) (by simp) ?_
      (refine AllReadyH.cons (by simp only [List.getElem?_toArray, List.getElem?_cons_succ, List.getElem?_cons_zero]; rfl) (fun K hK => ?_) ?_)
      · go_simp
        (refine hK.out _ _ ?_ (fun hHeld => ?_); (focus ((try dsimp only); exact ⟨by have := h5.size; simp only [World.size_drew] at this; omega, hz5, a5⟩)); clear hK K; (try simp only [Act.put, List.setIfInBounds_toArray, List.set_cons_zero, List.set_cons_succ]))
        (refine wpAnyH_take (i := 13) (v := ?_) (by simp only [List.getElem?_toArray, List.getElem?_cons_succ, List.getElem?_cons_zero]; rfl) (by kernel_rfl) (by kernel_rfl) (by kernel_rfl) (by exact fun _ _ _ h => h) (Or.inl ⟨by rfl, ?_⟩) (by assumption) ?_; rotate_left; (focus (intro wq hSw; (try dsimp only at hSw); go_simp; (try (with_reducible rfl)))); (try simp only [Act.put, List.setIfInBounds_toArray, List.set_cons_zero, List.set_cons_succ]))
        (refine wpAnyH_take (i := 14) (v := ?_) (by simp only [List.getElem?_toArray, List.getElem?_cons_succ, List.getElem?_cons_zero]; rfl) (by kernel_rfl) (by kernel_rfl) (by kernel_rfl) (by exact fun _ _ _ h => h) (Or.inl ⟨by rfl, ?_⟩) (by assumption) ?_; rotate_left; (focus (intro wq hSw; (try dsimp only at hSw); go_simp; (try (with_reducible rfl)))); (try simp only [Act.put, List.setIfInBounds_toArray, List.set_cons_zero, List.set_cons_succ]))
        refine wpAnyH_ready (rs := [15]) (by kernel_rfl) (by simp) ?_
        (refine AllReadyH.cons (by simp only [List.getElem?_toArray, List.getElem?_cons_succ, List.getElem?_cons_zero]; rfl) (fun K hK => ?_) ?_)
        · go_simp
          (refine hK.out _ _ ?_ (fun hHeld => ?_); (focus ((try dsimp only); exact ⟨by have := h5.size; simp only [World.size_drew] at this; omega, hz5, a5⟩)); clear hK K; (try simp only [Act.put, List.setIfInBounds_toArray, List.set_cons_zero, List.set_cons_succ]))
          (refine wpAnyH_take (i := 16) (v := ?_) (by simp only [List.getElem?_toArray, List.getElem?_cons_succ, List.getElem?_cons_zero]; rfl) (by kernel_rfl) (by kernel_rfl) (by kernel_rfl) (by exact fun _ _ _ h => h) (Or.inl ⟨by rfl, ?_⟩) (by assumption) ?_; rotate_left; (focus (intro wq hSw; (try dsimp only at hSw); go_simp; (try (with_reducible rfl)))); (try simp only [Act.put, List.setIfInBounds_toArray, List.set_cons_zero, List.set_cons_succ]))
          (refine wpAnyH_take (i := 17) (v := ?_) (by simp only [List.getElem?_toArray, List.getElem?_cons_succ, List.getElem?_cons_zero]; rfl) (by kernel_rfl) (by kernel_rfl) (by kernel_rfl) (by exact fun _ _ _ h => h) (Or.inl ⟨by rfl, ?_⟩) (by assumption) ?_; rotate_left; (focus (intro wq hSw; (try dsimp only at hSw); go_simp; (try (with_reducible rfl)))); (try simp only [Act.put, List.setIfInBounds_toArray, List.set_cons_zero, List.set_cons_succ]))
          refine wpAnyH_ready (rs := [18]) (by kernel_rfl) (by simp) ?_
          (refine AllReadyH.cons (by simp only [List.getElem?_toArray, List.getElem?_cons_succ, List.getElem?_cons_zero]; rfl) (fun K hK => ?_) ?_)
          · (refine step_fn ?_ 98 #[.tmp 37, .tmp 54] #[100, 98] ?_ #[.pointer (some ⟨g, 0, none⟩), .agg #[.int .i64 l, .int .i64 byt]] ?_ cf_learn ?_; exact rfl; exact rfl; (simp only [List.map_toArray, List.map_cons, List.map_nil, Act.eval]; rfl); refine (v_learn_impl k hTV w _ g A0 c0 _ cn Ai ci (HT.out.up (by repeat' (first | (with_reducible exact G.refl _) | (with_reducible assumption) | (with_reducible refine G.alloc ?_ _) | (with_reducible refine G.drew ?_) | (with_reducible refine G.drewN ?_ _) | (refine G.setCell ?_ (by first | (simp <;> done) | (simp <;> omega)) _) | (with_reducible refine G.trans ?_ (by with_reducible assumption))))) l byt HHL.out hbc hn).mono ?_; rintro e wL ⟨rfl, A0', c0', An', cn', Ai', ci', hTL⟩; have hfL := hTL.fz; have hlL := hTL.lt; have hTS := hTL.setLast (fr : Int); obtain ⟨t0, t1, t2, t3, t4, t5, t6, t7⟩ := hTL.cells; refine ⟨_, rfl, ?_⟩)
            (refine hK.out _ _ ?_ (fun hHeld => ?_); (focus ((try dsimp only); exact ⟨hTL.fr.size, hTL.lt, t5.trans (congrArg (fun z => some (Value.int .i64 z)) HL.out)⟩)); clear hK K; (try simp only [Act.put, List.setIfInBounds_toArray, List.set_cons_zero, List.set_cons_succ]))
            refine wpAnyH_done (by kernel_rfl) ?_ _
            go_wp2
            go_end0
            rw [HKA.out]
            exact ⟨rfl, A0', c0', An', cn', Ai', ci', hTS⟩
          exact AllReadyH.nil
        exact AllReadyH.nil
      exact AllReadyH.nil
    exact AllReadyH.nil
end
end Go.Proofs.YtlaijbkonapdbaaGreat
