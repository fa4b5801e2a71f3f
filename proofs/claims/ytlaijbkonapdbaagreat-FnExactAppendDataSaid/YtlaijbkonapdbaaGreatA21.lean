/-
  FnExactAppendDataSaid is proved: for every input FnExactAppendData returns true, and each argument reads afterwards as it read before; no conditions. Part 21 of 25.
-/
import Derived.Test.YtlaijbkonapdbaaGreatA20

set_option linter.all false

namespace Go.Proofs.YtlaijbkonapdbaaGreat
open Go.RowKit
attribute [local go_sem] grow_cell grow_frozen conv_one conv_two
open Go.PlainAid (bt get_bt bt_nonneg bt_le)
section
variable (b : ByteArray) (k : Nat) (hb : b.size ≤ 100000000) (hk : k ≤ 100000000) (w : World)
include hb hk

set_option maxRecDepth 20000 in
set_option maxHeartbeats 8000000 in
theorem v_ParseBlock_c (he : M.heAt (bs b) k) (rq : Bool) (hrq : decide (M.okP (bs b) k) = rq) (yb : ByteArray) (hyb : bs yb = (M.blAt (bs b) k).body) : Calls Tryz.prog 20 #[.string b, .int .i64 k] w fun e w' => e = .returned (if rq then .tuple #[.agg #[.int .i64 (M.blAt (bs b) k).num, .bool (M.blAt (bs b) k).raw, .int .i64 (M.blAt (bs b) k).size, .string yb], .int .i64 (M.enAt (bs b) k), .bool true] else .tuple #[.agg #[.int .i64 0, .bool false, .int .i64 0, .string ⟨#[]⟩], .int .i64 0, .bool false]) ∧ G w w' := by
  obtain ⟨f, hf⟩ : ∃ f, (M.blAt (bs b) k).form = f := ⟨_, rfl⟩
  obtain ⟨g, hg⟩ : ∃ g, decide ((M.blAt (bs b) k).text = ((bs b).drop k).take (M.enAt (bs b) k - k)) = g := ⟨_, rfl⟩
  have hrq2 : rq = (f && g) := by
    rw [← hrq, ← hf, ← hg, Bool.eq_iff_iff, Bool.and_eq_true, decide_eq_true_iff, decide_eq_true_iff]
    exact ⟨fun h => h.2, fun h => ⟨he, h⟩⟩
  clear hrq
  obtain ⟨h2, h3, h4, h5⟩ := he
  rw [← bs_size] at h2 h5
  have hget := get_bt b
  have h3' : bt b k = 181 := by rw [bt_by1]; omega
  obtain ⟨r, hr⟩ : ∃ r, decide (M.by1 (bs b) (k + 1) = 0) = r := ⟨_, rfl⟩
  have h4' : bt b (k + 1) ≤ 1 := by rw [bt_by1]; omega
  have hraw : (bt b (k + 1) == 0) = r := by rw [bt_by1, ← hr]; by_cases h : M.by1 (bs b) (k + 1) = 0 <;> simp [h]
  have n1 := bt_nonneg b (k + 1)
  obtain ⟨y6, hy6⟩ : ∃ y, b.extract (k + 6) (k + 8) = y := ⟨_, rfl⟩
  have hz6 : 2 ≤ y6.size := by rw [← hy6, ByteArray.size_extract]; omega
  have HP : Hid (M.at2 (bs y6) 0 = M.at2 (bs b) (k + 6)) := by show _ = _; rw [← hy6]; exact at2_extract b (k + 6)
  have ht2 : ((k : Int) + 2).toNat = k + 2 := by omega
  have ht4 : ((k : Int) + 4).toNat = k + 4 := by omega
  have ht6 : ((k : Int) + 6).toNat = k + 6 := by omega
  have hz2 : 2 ≤ (b.extract ((k : Int) + 2).toNat ((k : Int) + 4).toNat).size := by rw [ht2, ht4, ByteArray.size_extract]; omega
  have HP2 : Hid (M.at2 (bs (b.extract ((k : Int) + 2).toNat ((k : Int) + 4).toNat)) 0 = M.at2 (bs b) (k + 2)) := by show _ = _; rw [ht2, ht4]; exact at2_extract b (k + 2)
  have hz4 : 2 ≤ (b.extract ((k : Int) + 4).toNat ((k : Int) + 6).toNat).size := by rw [ht4, ht6, ByteArray.size_extract]; omega
  have HP4 : Hid (M.at2 (bs (b.extract ((k : Int) + 4).toNat ((k : Int) + 6).toNat)) 0 = M.at2 (bs b) (k + 4)) := by show _ = _; rw [ht4, ht6]; exact at2_extract b (k + 4)
  clear ht2 ht4 ht6
  have hlt := M.at2_lt (bs b) (k + 6)
  have hlt2 := M.at2_lt (bs b) (k + 2)
  have hlt4 := M.at2_lt (bs b) (k + 4)
  have hen : M.enAt (bs b) k = k + 10 + M.at2 (bs b) (k + 6) := rfl
  have hbl : M.blAt (bs b) k = ⟨M.at2 (bs b) (k + 2), decide (M.by1 (bs b) (k + 1) = 0), M.at2 (bs b) (k + 4), ((bs b).drop (k + 8)).take (M.at2 (bs b) (k + 6))⟩ := rfl
  generalize M.at2 (bs b) (k + 6) = n at *
  generalize M.at2 (bs b) (k + 2) = n2 at *
  generalize M.at2 (bs b) (k + 4) = n4 at *
  rw [hr] at hbl
  have hlt : n ≤ 65535 := by omega
  rw [hen] at h5
  rw [hbl] at hyb hf hg ⊢
  dsimp only at hyb ⊢
  have hybx : b.extract (k + 8) (k + 8 + n) = yb := by
    have : bs (b.extract (k + 8) (k + 8 + n)) = bs yb := by rw [hyb, bs_extract, show k + 8 + n - (k + 8) = n by omega]
    rw [← mk_bs yb, ← mk_bs (b.extract (k + 8) (k + 8 + n)), this]
  have HYB : Hid (b.extract ((k : Int) + 8).toNat ((k : Int) + 8 + n).toNat = yb) := by show _ = _; rw [← hybx, show ((k : Int) + 8).toNat = k + 8 by omega, show ((k : Int) + 8 + n).toNat = k + 8 + n by omega]
  rw [← hyb] at hf hg
  rw [hen] at hg
  have hzb : yb.size < 65536 := by rw [← hybx, ByteArray.size_extract]; omega
  obtain ⟨y9, hy9⟩ : ∃ y, b.extract k (k + 10 + n) = y := ⟨_, rfl⟩
  obtain ⟨yt, hyt⟩ : ∃ y : ByteArray, y = ⟨(M.Bl.text ⟨n2, r, n4, bs yb⟩).toArray⟩ := ⟨_, rfl⟩
  have HYT : Hid (S (M.Bl.text ⟨n2, r, n4, bs yb⟩) = .string yt) := by show _ = _; rw [hyt]; rfl
  have hseq : (yt.toList == y9.toList) = g := by
    rw [ByteArray.toList_eq, ByteArray.toList_eq, ← hg, hyt, ← hy9]
    show (M.Bl.text ⟨n2, r, n4, bs yb⟩ == bs (b.extract k (k + 10 + n))) = _
    rw [bs_extract]
    by_cases h : M.Bl.text ⟨n2, r, n4, bs yb⟩ = ((bs b).drop k).take (k + 10 + n - k) <;> simp [h]
  have HF := Lib.hid hf
  have HN2 := Lib.hid hlt2
  have HN4 := Lib.hid hlt4
  have HZB := Lib.hid hzb
  have hzb : yb.size ≤ 65535 := by omega
  have hn2 : n2 ≤ 65535 := by omega
  have hn4 : n4 ≤ 65535 := by omega
  have HE := Lib.hid hen
  rw [hen, hrq2]
  have hw1 : IntKind.i64.wrap ((k : Int) + 1) = k + 1 := IntWalk.i64_in _ ⟨by omega, by omega⟩
  have hw2 : IntKind.i64.wrap ((k : Int) + 2) = k + 2 := IntWalk.i64_in _ ⟨by omega, by omega⟩
  have hw4 : IntKind.i64.wrap ((k : Int) + 4) = k + 4 := IntWalk.i64_in _ ⟨by omega, by omega⟩
  have hw6 : IntKind.i64.wrap ((k : Int) + 6) = k + 6 := IntWalk.i64_in _ ⟨by omega, by omega⟩
  have hw8 : IntKind.i64.wrap ((k : Int) + 8) = k + 8 := IntWalk.i64_in _ ⟨by omega, by omega⟩
  have hw9 : IntKind.i64.wrap ((k : Int) + 8 + n) = k + 8 + n := IntWalk.i64_in _ ⟨by omega, by omega⟩
  have hi2 : (k : Int) + 10 + n ≤ b.size := by omega
  have hj1 : (0 : Int) ≤ (k : Int) + 1 := by omega
  have hj1' : (k : Int) + 1 < b.size := by omega
  have hj2 : (0 : Int) ≤ (k : Int) + 2 := by omega
  have hj4 : (0 : Int) ≤ (k : Int) + 4 := by omega
  have hj4' : (k : Int) + 4 ≤ b.size := by omega
  have hj6' : (k : Int) + 6 ≤ b.size := by omega
  have hj8 : (0 : Int) ≤ (k : Int) + 8 := by omega
  have hj8' : (k : Int) + 8 ≤ (k : Int) + 8 + n := by omega
  have hj8'' : (k : Int) + 8 + n ≤ b.size := by omega
  have hj24 : (k : Int) + 2 ≤ (k : Int) + 4 := by omega
  have hj46 : (k : Int) + 4 ≤ (k : Int) + 6 := by omega
  clear hen hbl hyt hg hf hyb hr h3 h4 hlt2 hlt4 hrq2
  go_enter Tryz.func20, Tryz.ntmps20
  go_wp2_with (first | (go_at_call 38; refine (v_l5Pair y6 hz6 _).mono ?_; rintro e w' ⟨rfl, h1⟩; obtain ⟨hch1, hfh1⟩ := gcell h1; rw [HP.out]) | fail)
  rename World => w9
  have hs1 : w.heap.size < w9.heap.size := by have := h1.size; simp at this; omega
  go_cut [8] (fun v wc => ∃ g8, v = .pointer (some ⟨g8, 0, none⟩) ∧ w.heap.size < g8 ∧ g8 < wc.heap.size ∧ G (w.alloc (.cells #[.int .i64 0, .bool false, .int .i64 0, .string ⟨#[]⟩] 46)) wc ∧ wc.cell? ⟨g8, 0, none⟩ = some (.int .i64 n2) ∧ wc.cell? ⟨g8, 1, none⟩ = some (.bool r) ∧ wc.cell? ⟨g8, 2, none⟩ = some (.int .i64 n4) ∧ wc.cell? ⟨g8, 3, none⟩ = some (.string yb))
  case first =>
    go_region_held3 (fun w' => w.heap.size ≤ w'.heap.size) (exact (show G w _ from (by repeat' (first | (with_reducible exact G.refl _) | (with_reducible assumption) | (with_reducible refine G.alloc ?_ _) | (with_reducible refine G.drew ?_) | (with_reducible refine G.drewN ?_ _) | (refine G.setCell ?_ (by first | (simp <;> done) | (simp <;> omega)) _) | (with_reducible refine G.trans ?_ (by with_reducible assumption))))).size) (first | (refine step_fn ?_ 38 #[.tmp 59] #[9] ?_ #[.string (b.extract ((k : Int) + 2).toNat ((k : Int) + 4).toNat)] ?_ cf_l5Pair ?_; exact rfl; exact rfl; (simp only [List.map_toArray, List.map_cons, List.map_nil, Act.eval]; rfl); refine (v_l5Pair _ hz2 _).mono ?_; rintro e wA ⟨rfl, h2⟩; rw [HP2.out]; obtain ⟨hch2, hfh2⟩ := gcell h2; have hsA := h2.size; (try simp only [World.size_drew, World.size_alloc] at hsA); (try (have hzA : w9.heap.size < wA.heap.size := by omega)); have hzA2 : w.heap.size < wA.heap.size := (by omega); refine ⟨_, rfl, ?_⟩) | (refine step_fn ?_ 38 #[.tmp 71] #[9] ?_ #[.string (b.extract ((k : Int) + 4).toNat ((k : Int) + 6).toNat)] ?_ cf_l5Pair ?_; exact rfl; exact rfl; (simp only [List.map_toArray, List.map_cons, List.map_nil, Act.eval]; rfl); refine (v_l5Pair _ hz4 _).mono ?_; rintro e wB ⟨rfl, h3⟩; rw [HP4.out]; obtain ⟨hch3, hfh3⟩ := gcell h3; have hsB := h3.size; (try simp only [World.size_drew, World.size_alloc] at hsB); (try (have hzB : w9.heap.size < wB.heap.size := by omega)); (try (have hzB1 : wA.heap.size < wB.heap.size := by omega)); have hzB2 : w.heap.size < wB.heap.size := (by omega); refine ⟨_, rfl, ?_⟩) | fail)
    all_goals
      go_wp2_with fail
      go_meet
      refine ⟨_, rfl, by omega, by simp only [World.size_setCell, World.size_drew, World.size_alloc] <;> omega, (by repeat' (first | (with_reducible exact G.refl _) | (with_reducible assumption) | (with_reducible refine G.alloc ?_ _) | (with_reducible refine G.drew ?_) | (with_reducible refine G.drewN ?_ _) | (refine G.setCell ?_ (by first | (simp <;> done) | (simp <;> omega)) _) | (with_reducible refine G.trans ?_ (by with_reducible assumption)))), by go_cell, by go_cell, by go_cell, by rw [← HYB.out]; go_cell⟩
  case rest =>
    obtain ⟨g8, rfl, hg1, hg2, hG8, c0, c1, c2, c3⟩ := hcut
    have hwx : IntKind.i64.wrap ((k : Int) + 10 + n) = k + 10 + n := IntWalk.i64_in _ ⟨by omega, by omega⟩
    have hwy : IntKind.i64.wrap ((k : Int) + 10) = k + 10 := IntWalk.i64_in _ ⟨by omega, by omega⟩
    obtain ⟨hcb8, hfb8⟩ := gcell hG8
    have hlw : w.heap.size < wc.heap.size := by omega
    have z0 : wc.cell? ⟨w.heap.size, 0, none⟩ = some (.int .i64 0) := by rw [hcb8 _ _ (by simp)]; go_cell
    have z1 : wc.cell? ⟨w.heap.size, 1, none⟩ = some (.bool false) := by rw [hcb8 _ _ (by simp)]; go_cell
    have z2 : wc.cell? ⟨w.heap.size, 2, none⟩ = some (.int .i64 0) := by rw [hcb8 _ _ (by simp)]; go_cell
    have z3 : wc.cell? ⟨w.heap.size, 3, none⟩ = some (.string ⟨#[]⟩) := by rw [hcb8 _ _ (by simp)]; go_cell
    have zf : ∀ o, wc.frozen? ⟨w.heap.size, o, none⟩ = false := by intro o; rw [hfb8 _ _ (by simp)]; simp
    have hG8w : G w wc := (show G w (w.alloc _) from (G.refl w).alloc _).trans hG8
    have hj10 : (0 : Int) ≤ (k : Int) + 10 + n := by omega
    have hj10' : (k : Int) ≤ (k : Int) + 10 + n := by omega
    have hse : (yt.toList == (b.extract k (k + 10 + n)).toList) = g := by rw [hy9]; exact hseq
    have HTX : Hid (∀ W : World, Calls Tryz.prog 40 #[.agg #[.int .i64 n2, .bool r, .int .i64 n4, .string yb]] W fun e w' => e = .returned (.string yt) ∧ G W w') := by
      intro W
      have := v_l5Text n2 n4 r yb HN2.out HN4.out HZB.out W
      rw [HYT.out] at this
      exact this
    clear hseq hy9 hcb8 hfb8 hG8 hw1 hw2 hw4 hw6 hw8 hw9 hj1 hj1' hj2 hj4 hj4' hj6' hj8 hj8' hj8'' hj24 hj46 hz2 hz4 HP2 HP4 HP hget h3' h4' n1 hybx HYB HYT h1 hs1 hy6 hz6 h2 h5 hzb hn2 hn4
    clear hraw
    cases f
    · go_wp2
      refine wp_region_quiet_below (by kernel_rfl) (by kernel_rfl) ?_
      repeat (first | go_big_quiet_step ((first | (go_at_call 39; exact qcall (v_l5Form n2 n4 r yb HN2.out HN4.out HZB.out _ false HF.out)))) | quiet_step ((first | (go_at_call 39; exact qcall (v_l5Form n2 n4 r yb HN2.out HN4.out HZB.out _ false HF.out)))))
      refine wpQuiet_nil ?_
      intro w' hw'
      have h9 := G.of_regrown hw'
      clear hw'
      obtain ⟨hch9, hfh9⟩ := gcell h9
      go_wp2
      refine bodyPost_ret (results_cell_tmp2 rfl _ _ w.heap.size [.int .i64 0, .bool false, .int .i64 0, .string ⟨#[]⟩] _ rfl (cells4 (by go_cell) (by go_cell) (by go_cell) (by go_cell)) Tryz.underlying46 rfl (by kernel_rfl)) rfl ?_
      exact ⟨rfl, (by repeat' (first | (with_reducible exact G.refl _) | (with_reducible assumption) | (with_reducible refine G.alloc ?_ _) | (with_reducible refine G.drew ?_) | (with_reducible refine G.drewN ?_ _) | (refine G.setCell ?_ (by first | (simp <;> done) | (simp <;> omega)) _) | (with_reducible refine G.trans ?_ (by with_reducible assumption))))⟩
    · cases g
      · go_wp2
        refine wp_region_quiet_below (by kernel_rfl) (by kernel_rfl) ?_
        repeat (first | go_big_quiet_step ((first | (go_at_call 39; exact qcall (v_l5Form n2 n4 r yb HN2.out HN4.out HZB.out _ true HF.out)) | (go_at_call 40; exact qcall (HTX.out _)))) | quiet_step ((first | (go_at_call 39; exact qcall (v_l5Form n2 n4 r yb HN2.out HN4.out HZB.out _ true HF.out)) | (go_at_call 40; exact qcall (HTX.out _)))))
        refine wpQuiet_nil ?_
        intro w' hw'
        have h9 := G.of_regrown hw'
        clear hw'
        obtain ⟨hch9, hfh9⟩ := gcell h9
        go_wp2
        refine bodyPost_ret (results_cell_tmp2 rfl _ _ w.heap.size [.int .i64 0, .bool false, .int .i64 0, .string ⟨#[]⟩] _ rfl (cells4 (by go_cell) (by go_cell) (by go_cell) (by go_cell)) Tryz.underlying46 rfl (by kernel_rfl)) rfl ?_
        exact ⟨rfl, (by repeat' (first | (with_reducible exact G.refl _) | (with_reducible assumption) | (with_reducible refine G.alloc ?_ _) | (with_reducible refine G.drew ?_) | (with_reducible refine G.drewN ?_ _) | (refine G.setCell ?_ (by first | (simp <;> done) | (simp <;> omega)) _) | (with_reducible refine G.trans ?_ (by with_reducible assumption))))⟩
      · go_wp2
        refine wp_region_quiet_below (by kernel_rfl) (by kernel_rfl) ?_
        repeat (first | go_big_quiet_step ((first | (go_at_call 39; exact qcall (v_l5Form n2 n4 r yb HN2.out HN4.out HZB.out _ true HF.out)) | (go_at_call 40; exact qcall (HTX.out _)))) | quiet_step ((first | (go_at_call 39; exact qcall (v_l5Form n2 n4 r yb HN2.out HN4.out HZB.out _ true HF.out)) | (go_at_call 40; exact qcall (HTX.out _)))))
        refine wpQuiet_nil ?_
        intro w' hw'
        have h9 := G.of_regrown hw'
        clear hw'
        obtain ⟨hch9, hfh9⟩ := gcell h9
        go_wp2
        refine bodyPost_ret (results_cell_tmp2 rfl _ _ w.heap.size [.int .i64 n2, .bool r, .int .i64 n4, .string yb] _ rfl (cells4 (by go_cell) (by go_cell) (by go_cell) (by go_cell)) Tryz.underlying46 rfl (by kernel_rfl)) rfl ?_
        refine ⟨?_, (by repeat' (first | (with_reducible exact G.refl _) | (with_reducible assumption) | (with_reducible refine G.alloc ?_ _) | (with_reducible refine G.drew ?_) | (with_reducible refine G.drewN ?_ _) | (refine G.setCell ?_ (by first | (simp <;> done) | (simp <;> omega)) _) | (with_reducible refine G.trans ?_ (by with_reducible assumption))))⟩
        simp
end
end Go.Proofs.YtlaijbkonapdbaaGreat
