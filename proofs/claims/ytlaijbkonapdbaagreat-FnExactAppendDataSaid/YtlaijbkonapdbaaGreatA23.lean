/-
  FnExactAppendDataSaid is proved: for every input FnExactAppendData returns true, and each argument reads afterwards as it read before; no conditions. Part 23 of 25.
-/
import Derived.Test.YtlaijbkonapdbaaGreatA22

set_option linter.all false

namespace Go.Proofs.YtlaijbkonapdbaaGreat
open Go.RowKit
attribute [local go_sem] grow_cell grow_frozen conv_one conv_two
open Go.PlainAid (bt get_bt bt_nonneg bt_le)
theorem cf_numberAt : ∀ args w, (callFunc 65 args).run Tryz.prog w = .ok (.enter 65 args) w := by intro args w; go_simp
theorem cf_SumOf_impl : ∀ args w, (callFunc 49 args).run Tryz.prog w = .ok (.enter 49 args) w := by intro args w; go_simp
theorem cf_blockValid : ∀ args w, (callFunc 47 args).run Tryz.prog w = .ok (.enter 47 args) w := by intro args w; go_simp
theorem v_numberAtX (b : ByteArray) (x : Int) (i : Nat) (hx : x = i) (hi : i + 2 ≤ b.size) (hb : b.size ≤ 100000000) (n : Nat) (hn : M.at2 (bs b) i = n) (w : World) : Calls Tryz.prog 65 #[.string b, .int .i64 x] w fun e w' => e = .returned (.int .i64 n) ∧ G w w' := by
  subst hx; subst hn; exact v_numberAt b i hi hb w
section
variable (b : ByteArray) (k : Nat) (hb : b.size ≤ 100000000) (hk : k ≤ 100000000) (w : World)
include hb hk
set_option maxRecDepth 4000 in
set_option maxHeartbeats 4000000 in
theorem i_ParseBlock_a (hn : ¬ (k + 10 ≤ b.size ∧ M.by1 (bs b) k = 181 ∧ M.by1 (bs b) (k + 1) ≤ 1)) : Calls Tryz.prog 45 #[.string b, .int .i64 k] w fun e w' => e = .returned (.tuple #[.agg #[.int .i64 0, .bool false, .int .i64 0, .string ⟨#[]⟩], .int .i64 0, .bool false]) ∧ G w w' := by
  have hget := get_bt b
  by_cases h2 : k + 10 ≤ b.size
  · have hb0 := bt_by1 b k
    have hb1 := bt_by1 b (k + 1)
    have l0 := bt_le b k
    have l1 := bt_le b (k + 1)
    have n0 := bt_nonneg b k
    have n1 := bt_nonneg b (k + 1)
    by_cases h3 : bt b k = 181
    · have h4 : ¬ bt b (k + 1) ≤ 1 := by intro h; exact hn ⟨h2, by omega, by omega⟩
      clear hn hb0 hb1
      go_enter Tryz.func45, Tryz.ntmps45
      go_wp2
      refine bodyPost_ret (results_cell_tmp2 rfl _ _ w.heap.size [.int .i64 0, .bool false, .int .i64 0, .string ⟨#[]⟩] _ rfl (cells4 (by go_cell) (by go_cell) (by go_cell) (by go_cell)) Tryz.underlying46 rfl (by kernel_rfl)) rfl ?_
      exact ⟨rfl, (by repeat' (first | (with_reducible exact G.refl _) | (with_reducible assumption) | (with_reducible refine G.alloc ?_ _) | (with_reducible refine G.drew ?_) | (with_reducible refine G.drewN ?_ _) | (refine G.setCell ?_ (by first | (simp <;> done) | (simp <;> omega)) _) | (with_reducible refine G.trans ?_ (by with_reducible assumption))))⟩
    · clear hn hb0 hb1
      go_enter Tryz.func45, Tryz.ntmps45
      go_wp2
      refine bodyPost_ret (results_cell_tmp2 rfl _ _ w.heap.size [.int .i64 0, .bool false, .int .i64 0, .string ⟨#[]⟩] _ rfl (cells4 (by go_cell) (by go_cell) (by go_cell) (by go_cell)) Tryz.underlying46 rfl (by kernel_rfl)) rfl ?_
      exact ⟨rfl, (by repeat' (first | (with_reducible exact G.refl _) | (with_reducible assumption) | (with_reducible refine G.alloc ?_ _) | (with_reducible refine G.drew ?_) | (with_reducible refine G.drewN ?_ _) | (refine G.setCell ?_ (by first | (simp <;> done) | (simp <;> omega)) _) | (with_reducible refine G.trans ?_ (by with_reducible assumption))))⟩
  · clear hn
    go_enter Tryz.func45, Tryz.ntmps45
    go_wp2
    refine bodyPost_ret (results_cell_tmp2 rfl _ _ w.heap.size [.int .i64 0, .bool false, .int .i64 0, .string ⟨#[]⟩] _ rfl (cells4 (by go_cell) (by go_cell) (by go_cell) (by go_cell)) Tryz.underlying46 rfl (by kernel_rfl)) rfl ?_
    exact ⟨rfl, (by repeat' (first | (with_reducible exact G.refl _) | (with_reducible assumption) | (with_reducible refine G.alloc ?_ _) | (with_reducible refine G.drew ?_) | (with_reducible refine G.drewN ?_ _) | (refine G.setCell ?_ (by first | (simp <;> done) | (simp <;> omega)) _) | (with_reducible refine G.trans ?_ (by with_reducible assumption))))⟩

set_option maxRecDepth 4000 in
set_option maxHeartbeats 4000000 in
theorem i_ParseBlock_b (h2 : k + 10 ≤ b.size) (h3 : M.by1 (bs b) k = 181) (h4 : M.by1 (bs b) (k + 1) ≤ 1) (hn : ¬ M.enAt (bs b) k ≤ b.size) : Calls Tryz.prog 45 #[.string b, .int .i64 k] w fun e w' => e = .returned (.tuple #[.agg #[.int .i64 0, .bool false, .int .i64 0, .string ⟨#[]⟩], .int .i64 0, .bool false]) ∧ G w w' := by
  have hget := get_bt b
  have h3' : bt b k = 181 := by rw [bt_by1]; omega
  have h4' : bt b (k + 1) ≤ 1 := by rw [bt_by1]; omega
  have n1 := bt_nonneg b (k + 1)
  have hlt := M.at2_lt (bs b) (k + 6)
  have hen : M.enAt (bs b) k = k + 10 + M.at2 (bs b) (k + 6) := rfl
  obtain ⟨n, hnn⟩ : ∃ n, M.at2 (bs b) (k + 6) = n := ⟨_, rfl⟩
  rw [hnn] at hlt hen
  have hlt : n ≤ 65535 := by omega
  have hn2 : b.size < k + 10 + n := by omega
  have HNN := Lib.hid hnn
  clear hen hn hnn h3 h4
  go_enter Tryz.func45, Tryz.ntmps45
  go_wp2_with (first | (go_at_call 65; refine (v_numberAtX b _ (k + 6) (by simp) (by omega) (by omega) n HNN.out _).mono ?_; rintro e w' ⟨rfl, h1⟩; obtain ⟨hch1, hfh1⟩ := gcell h1; try (have hzh1 : w.heap.size < w'.heap.size := by have := h1.size; (try simp at this); omega); try (have hyh1 : w.heap.size + 1 < w'.heap.size := by have := h1.size; (try simp at this); omega)) | fail)
  refine bodyPost_ret (results_cell_tmp2 rfl _ _ w.heap.size [.int .i64 0, .bool false, .int .i64 0, .string ⟨#[]⟩] _ rfl (cells4 (by go_cell) (by go_cell) (by go_cell) (by go_cell)) Tryz.underlying46 rfl (by kernel_rfl)) rfl ?_
  exact ⟨rfl, (by repeat' (first | (with_reducible exact G.refl _) | (with_reducible assumption) | (with_reducible refine G.alloc ?_ _) | (with_reducible refine G.drew ?_) | (with_reducible refine G.drewN ?_ _) | (refine G.setCell ?_ (by first | (simp <;> done) | (simp <;> omega)) _) | (with_reducible refine G.trans ?_ (by with_reducible assumption))))⟩

set_option maxRecDepth 20000 in
set_option maxHeartbeats 8000000 in
theorem i_ParseBlock_c (he : M.heAt (bs b) k) (rq : Bool) (hrq : decide (M.okI (bs b) k) = rq) (yb : ByteArray) (hyb : bs yb = (M.blAt (bs b) k).body) : Calls Tryz.prog 45 #[.string b, .int .i64 k] w fun e w' => e = .returned (if rq then .tuple #[.agg #[.int .i64 (M.blAt (bs b) k).num, .bool (M.blAt (bs b) k).raw, .int .i64 (M.blAt (bs b) k).size, .string yb], .int .i64 (M.enAt (bs b) k), .bool true] else .tuple #[.agg #[.int .i64 0, .bool false, .int .i64 0, .string ⟨#[]⟩], .int .i64 0, .bool false]) ∧ G w w' := by
  obtain ⟨f, hf⟩ : ∃ f, (M.blAt (bs b) k).form = f := ⟨_, rfl⟩
  obtain ⟨h2, h3, h4, h5⟩ := id he
  rw [← bs_size] at h2 h5
  have hlt := M.at2_lt (bs b) (k + 6)
  have hlt2 := M.at2_lt (bs b) (k + 2)
  have hlt4 := M.at2_lt (bs b) (k + 4)
  have hen : M.enAt (bs b) k = k + 10 + M.at2 (bs b) (k + 6) := rfl
  obtain ⟨ys, hys⟩ : ∃ y, b.extract (k + 1) (k + 8 + M.at2 (bs b) (k + 6)) = y := ⟨_, rfl⟩
  have hbys : bs ys = ((bs b).drop (k + 1)).take (M.enAt (bs b) k - 2 - (k + 1)) := by
    rw [← hys, bs_extract, hen, show k + 8 + M.at2 (bs b) (k + 6) - (k + 1) = k + 10 + M.at2 (bs b) (k + 6) - 2 - (k + 1) by omega]
  obtain ⟨sm, hsm⟩ : ∃ x, M.sumOf (bs ys) = x := ⟨_, rfl⟩
  obtain ⟨nm, hnm⟩ : ∃ x, M.at2 (bs b) (k + 8 + M.at2 (bs b) (k + 6)) = x := ⟨_, rfl⟩
  have hrq2 : rq = (f && decide (sm = nm)) := by
    rw [← hrq, ← hf, ← hsm, ← hnm, hbys, Bool.eq_iff_iff, Bool.and_eq_true, decide_eq_true_iff, decide_eq_true_iff]
    have e9 : M.enAt (bs b) k - 2 = k + 8 + M.at2 (bs b) (k + 6) := by omega
    rw [← e9]
    exact ⟨fun h => h.2, fun h => ⟨he, h⟩⟩
  have HSM := Lib.hid hsm
  obtain ⟨gq, hgq⟩ : ∃ gq, decide (sm = nm) = gq := ⟨_, rfl⟩
  rw [hgq] at hrq2
  have HGQ := Lib.hid hgq
  clear hrq he hbys hgq
  have hget := get_bt b
  have h3' : bt b k = 181 := by rw [bt_by1]; omega
  obtain ⟨r, hr⟩ : ∃ r, decide (M.by1 (bs b) (k + 1) = 0) = r := ⟨_, rfl⟩
  have h4' : bt b (k + 1) ≤ 1 := by rw [bt_by1]; omega
  have hraw : (bt b (k + 1) == 0) = r := by rw [bt_by1, ← hr]; by_cases h : M.by1 (bs b) (k + 1) = 0 <;> simp [h]
  have n1 := bt_nonneg b (k + 1)
  have hbl : M.blAt (bs b) k = ⟨M.at2 (bs b) (k + 2), decide (M.by1 (bs b) (k + 1) = 0), M.at2 (bs b) (k + 4), ((bs b).drop (k + 8)).take (M.at2 (bs b) (k + 6))⟩ := rfl
  obtain ⟨n, hn⟩ : ∃ n, M.at2 (bs b) (k + 6) = n := ⟨_, rfl⟩
  obtain ⟨n2, hn2⟩ : ∃ n, M.at2 (bs b) (k + 2) = n := ⟨_, rfl⟩
  obtain ⟨n4, hn4⟩ : ∃ n, M.at2 (bs b) (k + 4) = n := ⟨_, rfl⟩
  rw [hn] at hlt hen hbl hys hnm
  rw [hn2] at hlt2 hbl
  rw [hn4] at hlt4 hbl
  rw [hr] at hbl
  have HN := Lib.hid hn
  have HN2 := Lib.hid hn2
  have HN4 := Lib.hid hn4
  have HNM := Lib.hid hnm
  have hlt : n ≤ 65535 := by omega
  rw [hen] at h5
  rw [hbl] at hyb hf ⊢
  dsimp only at hyb ⊢
  have hybx : b.extract (k + 8) (k + 8 + n) = yb := by
    have : bs (b.extract (k + 8) (k + 8 + n)) = bs yb := by rw [hyb, bs_extract, show k + 8 + n - (k + 8) = n by omega]
    rw [← mk_bs yb, ← mk_bs (b.extract (k + 8) (k + 8 + n)), this]
  have HYB : Hid (b.extract ((k : Int) + 8).toNat ((k : Int) + 8 + n).toNat = yb) := by show _ = _; rw [← hybx, show ((k : Int) + 8).toNat = k + 8 by omega, show ((k : Int) + 8 + n).toNat = k + 8 + n by omega]
  have HYS := Lib.hid hys
  have hysz : ys.size ≤ 100000000 := by rw [← hys, ByteArray.size_extract]; omega
  rw [← hyb] at hf
  have hzb : yb.size < 65536 := by rw [← hybx, ByteArray.size_extract]; omega
  have HF := Lib.hid hf
  have HT2 := Lib.hid hlt2
  have HT4 := Lib.hid hlt4
  have HZB := Lib.hid hzb
  have HE := Lib.hid hen
  rw [hen, hrq2]
  have hw1 : IntKind.i64.wrap ((k : Int) + 1) = k + 1 := IntWalk.i64_in _ ⟨by omega, by omega⟩
  have hw2 : IntKind.i64.wrap ((k : Int) + 2) = k + 2 := IntWalk.i64_in _ ⟨by omega, by omega⟩
  have hw4 : IntKind.i64.wrap ((k : Int) + 4) = k + 4 := IntWalk.i64_in _ ⟨by omega, by omega⟩
  have hw8 : IntKind.i64.wrap ((k : Int) + 8) = k + 8 := IntWalk.i64_in _ ⟨by omega, by omega⟩
  have hw9 : IntKind.i64.wrap ((k : Int) + 8 + n) = k + 8 + n := IntWalk.i64_in _ ⟨by omega, by omega⟩
  have hi2 : (k : Int) + 10 + n ≤ b.size := by omega
  have hj1 : (0 : Int) ≤ (k : Int) + 1 := by omega
  have hj1' : (k : Int) + 1 < b.size := by omega
  have hj8 : (0 : Int) ≤ (k : Int) + 8 := by omega
  have hj8' : (k : Int) + 8 ≤ (k : Int) + 8 + n := by omega
  have hj8'' : (k : Int) + 8 + n ≤ b.size := by omega
  have hj9' : (k : Int) + 1 ≤ (k : Int) + 8 + n := by omega
  clear hen hbl hf hyb hr h3 h4 hlt2 hlt4 hrq2 hn hn2 hn4 hnm hsm hys hybx
  go_enter Tryz.func45, Tryz.ntmps45
  go_wp2_with (first | (go_at_call 65; refine (v_numberAtX b _ (k + 6) (by simp) (by omega) (by omega) n HN.out _).mono ?_; rintro e w' ⟨rfl, h1⟩; obtain ⟨hch1, hfh1⟩ := gcell h1; try (have hzh1 : w.heap.size < w'.heap.size := by have := h1.size; (try simp at this); omega); try (have hyh1 : w.heap.size + 1 < w'.heap.size := by have := h1.size; (try simp at this); omega)) | fail)
  rename World => w9
  have hs1 : w.heap.size < w9.heap.size := by have := h1.size; simp at this; omega
  go_cut [9] (fun v wc => ∃ g8, v = .pointer (some ⟨g8, 0, none⟩) ∧ w.heap.size < g8 ∧ g8 < wc.heap.size ∧ G (w.alloc (.cells #[.int .i64 0, .bool false, .int .i64 0, .string ⟨#[]⟩] 46)) wc ∧ wc.cell? ⟨g8, 0, none⟩ = some (.int .i64 n2) ∧ wc.cell? ⟨g8, 1, none⟩ = some (.bool r) ∧ wc.cell? ⟨g8, 2, none⟩ = some (.int .i64 n4) ∧ wc.cell? ⟨g8, 3, none⟩ = some (.string yb))
  case first =>
    go_region_held3 (fun w' => w.heap.size ≤ w'.heap.size) (exact (show G w _ from (by repeat' (first | (with_reducible exact G.refl _) | (with_reducible assumption) | (with_reducible refine G.alloc ?_ _) | (with_reducible refine G.drew ?_) | (with_reducible refine G.drewN ?_ _) | (refine G.setCell ?_ (by first | (simp <;> done) | (simp <;> omega)) _) | (with_reducible refine G.trans ?_ (by with_reducible assumption))))).size) (first | (refine step_fn ?_ 65 #[.tmp 47, .tmp 49] #[9, 3] ?_ #[.string b, .int .i64 ((k : Int) + 2)] ?_ cf_numberAt ?_; exact rfl; exact rfl; (simp only [List.map_toArray, List.map_cons, List.map_nil, Act.eval]; rfl); refine (v_numberAtX b _ (k + 2) (by simp) (by omega) (by omega) n2 HN2.out _).mono ?_; rintro e wA ⟨rfl, h2⟩; obtain ⟨hch2, hfh2⟩ := gcell h2; have hsA := h2.size; (try simp only [World.size_drew, World.size_alloc] at hsA); (try (have hzA : w9.heap.size < wA.heap.size := by omega)); have hzA2 : w.heap.size < wA.heap.size := (by omega); refine ⟨_, rfl, ?_⟩) | (refine step_fn ?_ 65 #[.tmp 56, .tmp 58] #[9, 3] ?_ #[.string b, .int .i64 ((k : Int) + 4)] ?_ cf_numberAt ?_; exact rfl; exact rfl; (simp only [List.map_toArray, List.map_cons, List.map_nil, Act.eval]; rfl); refine (v_numberAtX b _ (k + 4) (by simp) (by omega) (by omega) n4 HN4.out _).mono ?_; rintro e wB ⟨rfl, h3⟩; obtain ⟨hch3, hfh3⟩ := gcell h3; have hsB := h3.size; (try simp only [World.size_drew, World.size_alloc] at hsB); (try (have hzB : w9.heap.size < wB.heap.size := by omega)); (try (have hzB1 : wA.heap.size < wB.heap.size := by omega)); have hzB2 : w.heap.size < wB.heap.size := (by omega); refine ⟨_, rfl, ?_⟩) | fail)
    all_goals
      go_wp2_with fail
      go_meet
      refine ⟨_, rfl, by omega, by simp only [World.size_setCell, World.size_drew, World.size_alloc] <;> omega, (by repeat' (first | (with_reducible exact G.refl _) | (with_reducible assumption) | (with_reducible refine G.alloc ?_ _) | (with_reducible refine G.drew ?_) | (with_reducible refine G.drewN ?_ _) | (refine G.setCell ?_ (by first | (simp <;> done) | (simp <;> omega)) _) | (with_reducible refine G.trans ?_ (by with_reducible assumption)))), by go_cell, by go_cell, by go_cell, by rw [← HYB.out]; go_cell⟩
  case rest =>
    obtain ⟨g8, rfl, hg1, hg2, hG8, c0, c1, c2, c3⟩ := hcut
    obtain ⟨hcb8, hfb8⟩ := gcell hG8
    have hlw : w.heap.size < wc.heap.size := by omega
    have z0 : wc.cell? ⟨w.heap.size, 0, none⟩ = some (.int .i64 0) := by rw [hcb8 _ _ (by simp)]; go_cell
    have z1 : wc.cell? ⟨w.heap.size, 1, none⟩ = some (.bool false) := by rw [hcb8 _ _ (by simp)]; go_cell
    have z2 : wc.cell? ⟨w.heap.size, 2, none⟩ = some (.int .i64 0) := by rw [hcb8 _ _ (by simp)]; go_cell
    have z3 : wc.cell? ⟨w.heap.size, 3, none⟩ = some (.string ⟨#[]⟩) := by rw [hcb8 _ _ (by simp)]; go_cell
    have zf : ∀ o, wc.frozen? ⟨w.heap.size, o, none⟩ = false := by intro o; rw [hfb8 _ _ (by simp)]; simp
    have hG8w : G w wc := (show G w (w.alloc _) from (G.refl w).alloc _).trans hG8
    have hsum : Hid (∀ W : World, Calls Tryz.prog 49 #[.string ys] W fun e W' => e = .returned (.int .i64 sm) ∧ W = W') := by
      intro W
      have := v_SumOf_impl (bs ys) ys rfl hysz W
      rw [HSM.out] at this
      exact this
    have hx1 : b.extract (k + 1) (k + 8 + n) = ys := HYS.out
    clear hcb8 hfb8 hG8 hw2 hw4 hw8 hw9 hj8 hj8' hget h3' h4' n1 HYB h1 hs1 h2 hzb hraw
    cases f
    · go_wp2_with (first | (go_at_call 47; refine (v_blockValid n2 n4 r yb HT2.out HT4.out HZB.out _ false HF.out).mono ?_; rintro e w' ⟨rfl, h9⟩; obtain ⟨hch9, hfh9⟩ := gcell h9; try (have hzh9 : w.heap.size < w'.heap.size := by have := h9.size; (try simp at this); omega); try (have hyh9 : w.heap.size + 1 < w'.heap.size := by have := h9.size; (try simp at this); omega)) | fail)
      refine bodyPost_ret (results_cell_tmp2 rfl _ _ w.heap.size [.int .i64 0, .bool false, .int .i64 0, .string ⟨#[]⟩] _ rfl (cells4 (by go_cell) (by go_cell) (by go_cell) (by go_cell)) Tryz.underlying46 rfl (by kernel_rfl)) rfl ?_
      exact ⟨rfl, (by repeat' (first | (with_reducible exact G.refl _) | (with_reducible assumption) | (with_reducible refine G.alloc ?_ _) | (with_reducible refine G.drew ?_) | (with_reducible refine G.drewN ?_ _) | (refine G.setCell ?_ (by first | (simp <;> done) | (simp <;> omega)) _) | (with_reducible refine G.trans ?_ (by with_reducible assumption))))⟩
    · cases gq
      · have hq1 : ((sm : Int) != nm) = true := by have := of_decide_eq_false HGQ.out; simp; omega
        go_wp2_with (first | (go_at_call 47; refine (v_blockValid n2 n4 r yb HT2.out HT4.out HZB.out _ true HF.out).mono ?_; rintro e w' ⟨rfl, h9⟩; obtain ⟨hch9, hfh9⟩ := gcell h9; have hg9 : g8 < w'.heap.size := Nat.lt_of_lt_of_le hg2 h9.size; have hl9 : w.heap.size < w'.heap.size := Nat.lt_of_lt_of_le hlw h9.size) | (go_at_call 49; refine (hsum.out _).mono ?_; rintro e w' ⟨rfl, rfl⟩) | (go_at_call 65; refine (v_numberAtX b _ (k + 8 + n) (by simp) (by omega) (by omega) nm HNM.out _).mono ?_; rintro e w' ⟨rfl, h8⟩; obtain ⟨hch8, hfh8⟩ := gcell h8; have hg8 : g8 < w'.heap.size := Nat.lt_of_lt_of_le hg9 h8.size; have hl8 : w.heap.size < w'.heap.size := Nat.lt_of_lt_of_le hl9 h8.size) | fail)
        refine bodyPost_ret (results_cell_tmp2 rfl _ _ w.heap.size [.int .i64 0, .bool false, .int .i64 0, .string ⟨#[]⟩] _ rfl (cells4 (by go_cell) (by go_cell) (by go_cell) (by go_cell)) Tryz.underlying46 rfl (by kernel_rfl)) rfl ?_
        exact ⟨rfl, (by repeat' (first | (with_reducible exact G.refl _) | (with_reducible assumption) | (with_reducible refine G.alloc ?_ _) | (with_reducible refine G.drew ?_) | (with_reducible refine G.drewN ?_ _) | (refine G.setCell ?_ (by first | (simp <;> done) | (simp <;> omega)) _) | (with_reducible refine G.trans ?_ (by with_reducible assumption))))⟩
      · have hq1 : ((sm : Int) != nm) = false := by have := of_decide_eq_true HGQ.out; simp; omega
        go_wp2_with (first | (go_at_call 47; refine (v_blockValid n2 n4 r yb HT2.out HT4.out HZB.out _ true HF.out).mono ?_; rintro e w' ⟨rfl, h9⟩; obtain ⟨hch9, hfh9⟩ := gcell h9; have hg9 : g8 < w'.heap.size := Nat.lt_of_lt_of_le hg2 h9.size; have hl9 : w.heap.size < w'.heap.size := Nat.lt_of_lt_of_le hlw h9.size) | (go_at_call 49; refine (hsum.out _).mono ?_; rintro e w' ⟨rfl, rfl⟩) | (go_at_call 65; refine (v_numberAtX b _ (k + 8 + n) (by simp) (by omega) (by omega) nm HNM.out _).mono ?_; rintro e w' ⟨rfl, h8⟩; obtain ⟨hch8, hfh8⟩ := gcell h8; have hg8 : g8 < w'.heap.size := Nat.lt_of_lt_of_le hg9 h8.size; have hl8 : w.heap.size < w'.heap.size := Nat.lt_of_lt_of_le hl9 h8.size) | fail)
        refine bodyPost_ret (results_cell_tmp2 rfl _ _ w.heap.size [.int .i64 n2, .bool r, .int .i64 n4, .string yb] _ rfl (cells4 (by go_cell) (by go_cell) (by go_cell) (by go_cell)) Tryz.underlying46 rfl (by kernel_rfl)) rfl ?_
        refine ⟨?_, (by repeat' (first | (with_reducible exact G.refl _) | (with_reducible assumption) | (with_reducible refine G.alloc ?_ _) | (with_reducible refine G.drew ?_) | (with_reducible refine G.drewN ?_ _) | (refine G.setCell ?_ (by first | (simp <;> done) | (simp <;> omega)) _) | (with_reducible refine G.trans ?_ (by with_reducible assumption))))⟩
        simp
        omega
end
end Go.Proofs.YtlaijbkonapdbaaGreat
