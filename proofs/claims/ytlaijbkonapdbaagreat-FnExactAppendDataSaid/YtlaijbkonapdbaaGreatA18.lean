/-
  FnExactAppendDataSaid is proved: for every input FnExactAppendData returns true, and each argument reads afterwards as it read before; no conditions. Part 18 of 25.
-/
import Derived.Test.YtlaijbkonapdbaaGreatA08
import Derived.Test.YtlaijbkonapdbaaGreatA10

set_option linter.all false

namespace Go.Proofs.YtlaijbkonapdbaaGreat
open Go.RowKit
attribute [local go_sem] grow_cell grow_frozen conv_one conv_two

theorem conv_one_at (W : World) (g : Nat) (n : Int) (hg : g = W.heap.size) : (convert 60 9 (.slice (some ⟨g, 0, none⟩) 1 1)).run Tryz.prog (W.alloc (.cells #[.int .u8 n] 5)) =
    .ok (.string ⟨#[UInt8.ofNat n.toNat]⟩) (W.alloc (.cells #[.int .u8 n] 5)) := by subst hg; exact conv_one W n
attribute [local go_sem] conv_one_at

theorem conv_181 (W : World) (g : Nat) (hc : W.cell? ⟨g, 0, none⟩ = some (.int .u8 181)) : (convert 60 9 (.slice (some ⟨g, 0, none⟩) 1 1)).run Tryz.prog W = .ok (.string ⟨#[181]⟩) W := by
  have := conv_bytes W ⟨g, 0, none⟩ 1 1 [181] rfl (by
      intro j u hu
      rw [add_head]
      match j, hu with
      | 0, hu => simp at hu; subst hu; exact hc)
  simpa using this
attribute [local go_sem] conv_181
theorem held4 {w w' : World} (hg : G w w') {b : Nat} {v0 v1 v2 v3 : Value} (h : b < w.heap.size ∧ w.cell? ⟨b, 0, none⟩ = some v0 ∧ w.cell? ⟨b, 1, none⟩ = some v1 ∧ w.cell? ⟨b, 2, none⟩ = some v2 ∧ w.cell? ⟨b, 3, none⟩ = some v3) :
    b < w'.heap.size ∧ w'.cell? ⟨b, 0, none⟩ = some v0 ∧ w'.cell? ⟨b, 1, none⟩ = some v1 ∧ w'.cell? ⟨b, 2, none⟩ = some v2 ∧ w'.cell? ⟨b, 3, none⟩ = some v3 :=
  ⟨Nat.lt_of_lt_of_le h.1 hg.size, (hg.cell (p := ⟨b, 0, none⟩) h.1).trans h.2.1, (hg.cell (p := ⟨b, 1, none⟩) h.1).trans h.2.2.1, (hg.cell (p := ⟨b, 2, none⟩) h.1).trans h.2.2.2.1, (hg.cell (p := ⟨b, 3, none⟩) h.1).trans h.2.2.2.2⟩

theorem cf_l5Kind : ∀ args w, (callFunc 54 args).run Tryz.prog w = .ok (.enter 54 args) w := by intro args w; go_simp
theorem cf_l4Two : ∀ args w, (callFunc 55 args).run Tryz.prog w = .ok (.enter 55 args) w := by intro args w; go_simp
theorem cf_SumOf : ∀ args w, (callFunc 56 args).run Tryz.prog w = .ok (.enter 56 args) w := by intro args w; go_simp

section
variable (n z : Nat) (r : Bool) (y : ByteArray) (hn : n < 65536) (hz : z < 65536) (hy : y.size < 65536) (w : World)
theorem v_l5Kind : Calls Tryz.prog 54 #[.agg #[.int .i64 n, .bool r, .int .i64 z, .string y]] w fun e w' => e = .returned (S [if r then 0 else 1]) ∧ G w w' := by
  cases r
  all_goals
    go_enter Tryz.func54, Tryz.ntmps54
    go_wp2
    go_ret
    exact ⟨rfl, (by repeat' (first | (with_reducible exact G.refl _) | (with_reducible assumption) | (with_reducible refine G.alloc ?_ _) | (with_reducible refine G.drew ?_) | (with_reducible refine G.drewN ?_ _) | (refine G.setCell ?_ (by first | (simp <;> done) | (simp <;> omega)) _) | (with_reducible refine G.trans ?_ (by with_reducible assumption))))⟩
theorem v_l5Number (q : Bool) (hq : decide (n ≤ 39) = q) : Calls Tryz.prog 53 #[.int .i64 n] w fun e w' => e = .returned (.bool q) ∧ w = w' := by
  have HQ : Hid (decide ((0 : Int) ≤ n ∧ (n : Int) ≤ 39) = q) := by show _ = _; rw [← hq]; exact decide_eq_decide.mpr (by omega)
  clear hq
  go_enter Tryz.func53, Tryz.ntmps53
  go_wp2_with (go_at_call 22; refine (c_l1In _ _ _ _).mono ?_; rintro e w' ⟨rfl, rfl⟩; rw [HQ.out])
  go_ret
  exact ⟨rfl, rfl⟩
theorem c_l1In_q (a b c : Int) (q : Bool) (hq : decide (b ≤ a ∧ a ≤ c) = q) (w : World) : Calls Tryz.prog 22 #[.int .i64 a, .int .i64 b, .int .i64 c] w fun e w' => e = .returned (.bool q) ∧ w = w' := by
  subst hq; exact c_l1In a b c w
include hn hz hy
set_option maxHeartbeats 2000000 in
theorem v_l5Form (q : Bool) (hq : M.Bl.form ⟨n, r, z, bs y⟩ = q) : Calls Tryz.prog 39 #[.agg #[.int .i64 n, .bool r, .int .i64 z, .string y]] w fun e w' => e = .returned (.bool q) ∧ G w w' := by
  have hsz := bs_size y
  unfold M.Bl.form at hq
  dsimp only at hq
  rw [← hsz] at hq
  have hn : n ≤ 65535 := by omega
  have hz : z ≤ 65535 := by omega
  have hy : y.size ≤ 65535 := by omega
  clear hsz
  by_cases h1 : n ≤ 39
  · have H1 : Hid (decide (n ≤ 39) = true) := by show _ = _; simp [h1]
    by_cases h2 : 1 ≤ z ∧ z ≤ 64
    · have H2 : Hid (decide ((1 : Int) ≤ z ∧ (z : Int) ≤ 64) = true) := by show _ = _; simp only [decide_eq_true_eq]; omega
      have h3 : decide (n ≤ 39 ∧ 1 ≤ z ∧ z ≤ 64) = true := by simp only [decide_eq_true_eq]; exact ⟨h1, h2⟩
      rw [h3, Bool.true_and] at hq
      clear h3
      cases r
      · have HQ : Hid (decide ((1 : Int) ≤ y.size ∧ (y.size : Int) ≤ (z : Int) - 1) = q) := by show _ = _; rw [← hq]; simp only [Bool.false_eq_true, if_false]; exact decide_eq_decide.mpr (by omega)
        clear hq
        obtain ⟨h4, h5⟩ := h2
        go_enter Tryz.func39, Tryz.ntmps39
        go_wp2_with (first | (go_at_call 53; refine (v_l5Number n _ true H1.out).mono ?_; rintro e w' ⟨rfl, rfl⟩) | (go_at_call 22; with_reducible refine (c_l1In_q _ 1 64 true H2.out _).mono ?_; rintro e w' ⟨rfl, rfl⟩) | (go_at_call 22; with_reducible refine (c_l1In_q _ 1 _ q HQ.out _).mono ?_; rintro e w' ⟨rfl, rfl⟩) | fail)
        go_ret
        exact ⟨rfl, (by repeat' (first | (with_reducible exact G.refl _) | (with_reducible assumption) | (with_reducible refine G.alloc ?_ _) | (with_reducible refine G.drew ?_) | (with_reducible refine G.drewN ?_ _) | (refine G.setCell ?_ (by first | (simp <;> done) | (simp <;> omega)) _) | (with_reducible refine G.trans ?_ (by with_reducible assumption))))⟩
      · have HQ : Hid (decide (y.size = z) = q) := by show _ = _; rw [← hq]; simp
        clear hq
        obtain ⟨h4, h5⟩ := h2
        by_cases h6 : y.size = z
        all_goals
          go_enter Tryz.func39, Tryz.ntmps39
          go_wp2_with (first | (go_at_call 53; refine (v_l5Number n _ true H1.out).mono ?_; rintro e w' ⟨rfl, rfl⟩) | (go_at_call 22; with_reducible refine (c_l1In_q _ 1 64 true H2.out _).mono ?_; rintro e w' ⟨rfl, rfl⟩) | fail)
          go_ret
          refine ⟨ret_bool ?_, (by repeat' (first | (with_reducible exact G.refl _) | (with_reducible assumption) | (with_reducible refine G.alloc ?_ _) | (with_reducible refine G.drew ?_) | (with_reducible refine G.drewN ?_ _) | (refine G.setCell ?_ (by first | (simp <;> done) | (simp <;> omega)) _) | (with_reducible refine G.trans ?_ (by with_reducible assumption))))⟩
          rw [← HQ.out]
          first | (simp [h6]; done) | (simp [h6]; omega)
    · have H2 : Hid (decide ((1 : Int) ≤ z ∧ (z : Int) ≤ 64) = false) := by show _ = _; simp only [decide_eq_false_iff_not]; omega
      have h3 : decide (n ≤ 39 ∧ 1 ≤ z ∧ z ≤ 64) = false := by simp only [decide_eq_false_iff_not]; exact fun h => h2 h.2
      rw [h3, Bool.false_and] at hq
      clear h3 h2
      subst hq
      go_enter Tryz.func39, Tryz.ntmps39
      go_wp2_with (first | (go_at_call 53; refine (v_l5Number n _ true H1.out).mono ?_; rintro e w' ⟨rfl, rfl⟩) | (go_at_call 22; refine (c_l1In_q _ 1 64 false H2.out _).mono ?_; rintro e w' ⟨rfl, rfl⟩) | fail)
      go_ret
      exact ⟨rfl, (by repeat' (first | (with_reducible exact G.refl _) | (with_reducible assumption) | (with_reducible refine G.alloc ?_ _) | (with_reducible refine G.drew ?_) | (with_reducible refine G.drewN ?_ _) | (refine G.setCell ?_ (by first | (simp <;> done) | (simp <;> omega)) _) | (with_reducible refine G.trans ?_ (by with_reducible assumption))))⟩
  · have H1 : Hid (decide (n ≤ 39) = false) := by show _ = _; simp [h1]
    have h3 : decide (n ≤ 39 ∧ 1 ≤ z ∧ z ≤ 64) = false := by simp only [decide_eq_false_iff_not]; exact fun h => h1 h.1
    rw [h3, Bool.false_and] at hq
    clear h3 h1
    subst hq
    go_enter Tryz.func39, Tryz.ntmps39
    go_wp2_with (first | (go_at_call 53; refine (v_l5Number n _ false H1.out).mono ?_; rintro e w' ⟨rfl, rfl⟩) | fail)
    go_ret
    exact ⟨rfl, (by repeat' (first | (with_reducible exact G.refl _) | (with_reducible assumption) | (with_reducible refine G.alloc ?_ _) | (with_reducible refine G.drew ?_) | (with_reducible refine G.drewN ?_ _) | (refine G.setCell ?_ (by first | (simp <;> done) | (simp <;> omega)) _) | (with_reducible refine G.trans ?_ (by with_reducible assumption))))⟩
set_option maxHeartbeats 2000000 in
theorem v_blockValid (q : Bool) (hq : M.Bl.form ⟨n, r, z, bs y⟩ = q) : Calls Tryz.prog 47 #[.agg #[.int .i64 n, .bool r, .int .i64 z, .string y]] w fun e w' => e = .returned (.bool q) ∧ G w w' := by
  have hsz := bs_size y
  unfold M.Bl.form at hq
  dsimp only at hq
  rw [← hsz] at hq
  have hn : n ≤ 65535 := by omega
  have hz : z ≤ 65535 := by omega
  have hy : y.size ≤ 65535 := by omega
  clear hsz
  rcases Nat.eq_zero_or_pos z with rfl | h2
  · have hf : q = false := by rw [← hq]; simp
    subst hf
    clear hq
    by_cases h1 : n ≤ 39
    all_goals
      go_enter Tryz.func47, Tryz.ntmps47
      go_wp2
      go_ret
      exact ⟨rfl, (by repeat' (first | (with_reducible exact G.refl _) | (with_reducible assumption) | (with_reducible refine G.alloc ?_ _) | (with_reducible refine G.drew ?_) | (with_reducible refine G.drewN ?_ _) | (refine G.setCell ?_ (by first | (simp <;> done) | (simp <;> omega)) _) | (with_reducible refine G.trans ?_ (by with_reducible assumption))))⟩
  have h2 : 1 ≤ z := h2
  by_cases h1 : n ≤ 39 <;> by_cases h3 : z ≤ 64
  case pos =>
    cases r
    · rcases Nat.eq_zero_or_pos y.size with h4 | h4
      · obtain rfl : y = ⟨#[]⟩ := by
          cases y with
          | mk a => congr 1; exact Array.eq_empty_of_size_eq_zero h4
        have HQ : Hid (false = q) := by show _ = _; rw [← hq, show (ByteArray.mk #[]).size = 0 from rfl]; simp
        clear hq h4 hy
        go_enter Tryz.func47, Tryz.ntmps47
        go_wp2
        go_ret
        exact ⟨ret_bool HQ.out, (by repeat' (first | (with_reducible exact G.refl _) | (with_reducible assumption) | (with_reducible refine G.alloc ?_ _) | (with_reducible refine G.drew ?_) | (with_reducible refine G.drewN ?_ _) | (refine G.setCell ?_ (by first | (simp <;> done) | (simp <;> omega)) _) | (with_reducible refine G.trans ?_ (by with_reducible assumption))))⟩
      · have h4 : 1 ≤ y.size := h4
        by_cases h5 : y.size < z
        all_goals
          have HQ : Hid ((decide (1 ≤ y.size) && decide (y.size < z)) = q) := by show _ = _; rw [← hq]; simp [h1, h2, h3, h4, h5]
          clear hq
          go_enter Tryz.func47, Tryz.ntmps47
          go_wp2
          go_ret
          refine ⟨ret_bool ?_, (by repeat' (first | (with_reducible exact G.refl _) | (with_reducible assumption) | (with_reducible refine G.alloc ?_ _) | (with_reducible refine G.drew ?_) | (with_reducible refine G.drewN ?_ _) | (refine G.setCell ?_ (by first | (simp <;> done) | (simp <;> omega)) _) | (with_reducible refine G.trans ?_ (by with_reducible assumption))))⟩
          rw [← HQ.out]
          simp [h4, h5]
    · have HQ : Hid (decide (y.size = z) = q) := by show _ = _; rw [← hq]; simp [h1, h2, h3]
      clear hq
      by_cases h6 : y.size = z
      all_goals
        go_enter Tryz.func47, Tryz.ntmps47
        go_wp2
        go_ret
        refine ⟨ret_bool ?_, (by repeat' (first | (with_reducible exact G.refl _) | (with_reducible assumption) | (with_reducible refine G.alloc ?_ _) | (with_reducible refine G.drew ?_) | (with_reducible refine G.drewN ?_ _) | (refine G.setCell ?_ (by first | (simp <;> done) | (simp <;> omega)) _) | (with_reducible refine G.trans ?_ (by with_reducible assumption))))⟩
        rw [← HQ.out]
        first | (simp [h6]; done) | (simp [h6]; omega)
  all_goals
    have hf : q = false := by rw [← hq]; simp [h1, h2, h3]
    subst hf
    clear hq
    go_enter Tryz.func47, Tryz.ntmps47
    go_wp2
    go_ret
    exact ⟨rfl, (by repeat' (first | (with_reducible exact G.refl _) | (with_reducible assumption) | (with_reducible refine G.alloc ?_ _) | (with_reducible refine G.drew ?_) | (with_reducible refine G.drewN ?_ _) | (refine G.setCell ?_ (by first | (simp <;> done) | (simp <;> omega)) _) | (with_reducible refine G.trans ?_ (by with_reducible assumption))))⟩

include hn hz hy
set_option maxRecDepth 4000 in
set_option maxHeartbeats 4000000 in
theorem v_l5Text : Calls Tryz.prog 40 #[.agg #[.int .i64 n, .bool r, .int .i64 z, .string y]] w fun e w' => e = .returned (S (M.Bl.text ⟨n, r, z, bs y⟩)) ∧ G w w' := by
  have HI : Hid (M.Bl.inner ⟨n, r, z, bs y⟩ = (if r then 0 else 1) :: (M.two n ++ M.two z ++ M.two y.size ++ bs y)) := by show _ = _; rw [bs_size]; rfl
  have HX : Hid (M.Bl.text ⟨n, r, z, bs y⟩ = 181 :: (M.Bl.inner ⟨n, r, z, bs y⟩ ++ M.two (M.sumOf (M.Bl.inner ⟨n, r, z, bs y⟩)))) := rfl
  have hs := M.sumOf_lt (M.Bl.inner ⟨n, r, z, bs y⟩)
  generalize M.Bl.inner ⟨n, r, z, bs y⟩ = inn at *
  generalize M.Bl.text ⟨n, r, z, bs y⟩ = txt at *
  have HS := Lib.hid hs
  have HN := Lib.hid hn
  have HZ := Lib.hid hz
  have HY := Lib.hid hy
  have hy : y.size ≤ 65535 := by omega
  obtain ⟨y1, h1⟩ : ∃ b : ByteArray, b = ⟨[(if r then 0 else 1 : UInt8)].toArray⟩ := ⟨_, rfl⟩
  obtain ⟨y2, h2⟩ : ∃ b : ByteArray, b = ⟨(M.two n).toArray⟩ := ⟨_, rfl⟩
  obtain ⟨y3, h3⟩ : ∃ b : ByteArray, b = ⟨(M.two z).toArray⟩ := ⟨_, rfl⟩
  obtain ⟨y4, h4⟩ : ∃ b : ByteArray, b = ⟨(M.two y.size).toArray⟩ := ⟨_, rfl⟩
  obtain ⟨y5, h5⟩ : ∃ b : ByteArray, b = ⟨(M.two (M.sumOf inn)).toArray⟩ := ⟨_, rfl⟩
  have Y1 : Hid (S [if r then 0 else 1] = .string y1) := by show _ = _; rw [h1]; rfl
  have Y2 : Hid (S (M.two n) = .string y2) := by show _ = _; rw [h2]; rfl
  have Y3 : Hid (S (M.two z) = .string y3) := by show _ = _; rw [h3]; rfl
  have Y4 : Hid (S (M.two y.size) = .string y4) := by show _ = _; rw [h4]; rfl
  have Y5 : Hid (S (M.two (M.sumOf inn)) = .string y5) := by show _ = _; rw [h5]; rfl
  have HIN : Hid (bs (y1 ++ y2 ++ y3 ++ y4 ++ y) = inn) := by show _ = _; rw [HI.out, h1, h2, h3, h4]; simp [bs]
  have hs1 : y1.size ≤ 1 := by rw [h1]; exact Nat.le_refl _
  have hs2 : y2.size ≤ 2 := by rw [h2]; exact Nat.le_refl _
  have hs3 : y3.size ≤ 2 := by rw [h3]; exact Nat.le_refl _
  have hs4 : y4.size ≤ 2 := by rw [h4]; exact Nat.le_refl _
  have hs5 : y5.size ≤ 2 := by rw [h5]; exact Nat.le_refl _
  have hsz : (y1 ++ y2 ++ y3 ++ y4 ++ y).size ≤ 100000000 := by simp [ByteArray.size_append]; omega
  have HSZ := Lib.hid hsz
  have H5 := Lib.hid h5
  clear h1 h2 h3 h4 h5 hs hn hz hsz
  have hq1 : ¬ 9223372036854775807 < y1.size + y2.size := by omega
  have hq2 : ¬ 9223372036854775807 < y1.size + y2.size + y3.size := by omega
  have hq3 : ¬ 9223372036854775807 < y1.size + y2.size + y3.size + y4.size := by omega
  have hq4 : ¬ 9223372036854775807 < y1.size + y2.size + y3.size + y4.size + y.size := by omega
  go_enter Tryz.func40, Tryz.ntmps40
  go_wp2
  have hS0 : w.heap.size < (w.alloc (.cells #[.int .i64 n, .bool r, .int .i64 z, .string y] 46)).heap.size ∧ (w.alloc (.cells #[.int .i64 n, .bool r, .int .i64 z, .string y] 46)).cell? ⟨w.heap.size, 0, none⟩ = some (.int .i64 n) ∧ (w.alloc (.cells #[.int .i64 n, .bool r, .int .i64 z, .string y] 46)).cell? ⟨w.heap.size, 1, none⟩ = some (.bool r) ∧ (w.alloc (.cells #[.int .i64 n, .bool r, .int .i64 z, .string y] 46)).cell? ⟨w.heap.size, 2, none⟩ = some (.int .i64 z) ∧ (w.alloc (.cells #[.int .i64 n, .bool r, .int .i64 z, .string y] 46)).cell? ⟨w.heap.size, 3, none⟩ = some (.string y) := ⟨by simp, by go_cell, by go_cell, by go_cell, by go_cell⟩
  go_region_held3 (fun w' => w.heap.size < w'.heap.size ∧ w'.cell? ⟨w.heap.size, 0, none⟩ = some (.int .i64 n) ∧ w'.cell? ⟨w.heap.size, 1, none⟩ = some (.bool r) ∧ w'.cell? ⟨w.heap.size, 2, none⟩ = some (.int .i64 z) ∧ w'.cell? ⟨w.heap.size, 3, none⟩ = some (.string y)) (exact held4 (by repeat' (first | (with_reducible exact G.refl _) | (with_reducible assumption) | (with_reducible refine G.alloc ?_ _) | (with_reducible refine G.drew ?_) | (with_reducible refine G.drewN ?_ _) | (refine G.setCell ?_ (by first | (simp <;> done) | (simp <;> omega)) _) | (with_reducible refine G.trans ?_ (by with_reducible assumption)))) hS0) (first | (refine step_fn ?_ 54 #[.tmp 4] #[46] ?_ #[.agg #[.int .i64 n, .bool r, .int .i64 z, .string y]] ?_ cf_l5Kind ?_; exact rfl; exact rfl; (simp only [List.map_toArray, List.map_cons, List.map_nil, Act.eval]; rfl); refine (v_l5Kind n z r y _).mono ?_; rintro e w' ⟨rfl, h1⟩; rw [Y1.out]; refine ⟨_, rfl, ?_⟩) | (refine step_fn ?_ 55 #[.tmp 7] #[3] ?_ #[.int .i64 n] ?_ cf_l4Two ?_; exact rfl; exact rfl; (simp only [List.map_toArray, List.map_cons, List.map_nil, Act.eval]; rfl); refine (v_l4Two n HN.out _).mono ?_; rintro e w' ⟨rfl, h2⟩; rw [Y2.out]; refine ⟨_, rfl, ?_⟩) | (refine step_fn ?_ 55 #[.tmp 11] #[3] ?_ #[.int .i64 z] ?_ cf_l4Two ?_; exact rfl; exact rfl; (simp only [List.map_toArray, List.map_cons, List.map_nil, Act.eval]; rfl); refine (v_l4Two z HZ.out _).mono ?_; rintro e w' ⟨rfl, h3⟩; rw [Y3.out]; refine ⟨_, rfl, ?_⟩) | (refine step_fn ?_ 55 #[.tmp 16] #[3] ?_ #[.int .i64 y.size] ?_ cf_l4Two ?_; exact rfl; exact rfl; (simp only [List.map_toArray, List.map_cons, List.map_nil, Act.eval]; rfl); refine (v_l4Two y.size HY.out _).mono ?_; rintro e w' ⟨rfl, h4⟩; rw [Y4.out]; refine ⟨_, rfl, ?_⟩) | fail)
  rename World => w9
  have hG9 : G w w9 := (by repeat' (first | (with_reducible exact G.refl _) | (with_reducible assumption) | (with_reducible refine G.alloc ?_ _) | (with_reducible refine G.drew ?_) | (with_reducible refine G.drewN ?_ _) | (refine G.setCell ?_ (by first | (simp <;> done) | (simp <;> omega)) _) | (with_reducible refine G.trans ?_ (by with_reducible assumption))))
  obtain ⟨yi, hyi⟩ : ∃ b, b = y1 ++ y2 ++ y3 ++ y4 ++ y := ⟨_, rfl⟩
  rw [← hyi]
  have HI2 : Hid (bs yi = inn) := by show _ = _; rw [hyi]; exact HIN.out
  have hzi : yi.size ≤ 70000 := by rw [hyi]; simp [ByteArray.size_append]; omega
  clear hyi
  go_wp2
  have hq5 : ¬ 9223372036854775807 < 1 + yi.size := by omega
  have hq6 : ¬ 9223372036854775807 < 1 + yi.size + y5.size := by omega
  go_region_law (first | (refine step_fn ?_ 56 #[.tmp 26] #[9] ?_ #[.string yi] ?_ cf_SumOf ?_; exact rfl; exact rfl; (simp only [List.map_toArray, List.map_cons, List.map_nil, Act.eval]; rfl); refine (v_SumOf_spec inn yi HI2.out (by omega) _).mono ?_; rintro e w' ⟨rfl, rfl⟩; refine ⟨_, rfl, ?_⟩) | (refine step_fn ?_ 55 #[.tmp 27] #[3] ?_ #[.int .i64 (M.sumOf inn)] ?_ cf_l4Two ?_; exact rfl; exact rfl; (simp only [List.map_toArray, List.map_cons, List.map_nil, Act.eval]; rfl); refine (v_l4Two (M.sumOf inn) HS.out _).mono ?_; rintro e w' ⟨rfl, h2⟩; rw [Y5.out]; have hc2 := (gcell h2).1; refine ⟨_, rfl, ?_⟩) | fail)
  all_goals
    go_wp2
    go_ret
    refine ⟨?_, (by repeat' (first | (with_reducible exact G.refl _) | (with_reducible assumption) | (with_reducible refine G.alloc ?_ _) | (with_reducible refine G.drew ?_) | (with_reducible refine G.drewN ?_ _) | (refine G.setCell ?_ (by first | (simp <;> done) | (simp <;> omega)) _) | (with_reducible refine G.trans ?_ (by with_reducible assumption))))⟩
    have e : bs (⟨#[181]⟩ ++ yi ++ y5) = txt := by
      rw [HX.out]; simp only [bs_append, HI2.out, H5.out]; simp [bs]
    rw [← bs_eq e]; rfl
end
end Go.Proofs.YtlaijbkonapdbaaGreat

/-! Lists of blocks: sizes, texts, how a container is read, how data is split. -/
namespace M
def sizes (l : List Bl) : Nat := (l.map Bl.size).sum
theorem sizes_take (l : List Bl) (i : Nat) (h : i < l.length) : sizes (l.take (i + 1)) = sizes (l.take i) + l[i].size := by
  unfold sizes; rw [List.take_add_one, List.getElem?_eq_getElem h, Option.toList_some, List.map_append, List.sum_append]; simp
theorem sizes_append (a b : List Bl) : sizes (a ++ b) = sizes a + sizes b := by simp [sizes]
theorem sizes_le (l : List Bl) (c : Nat) (h : ∀ b ∈ l, b.size ≤ c) : sizes l ≤ c * l.length := by
  induction l with
  | nil => simp [sizes]
  | cons a t ih =>
    have h1 := h a (by simp)
    have h2 := ih (fun b hb => h b (by simp [hb]))
    simp only [sizes, List.map_cons, List.sum_cons, List.length_cons, Nat.mul_add] at h2 ⊢
    omega
/-- the texts of blocks, numbered from a number on -/
def texts (n : Nat) : List Bl → Bytes
  | [] => []
  | b :: l => Bl.text { b with num := n } ++ texts (n + 1) l
theorem texts_append (a b : List Bl) : ∀ n, texts n (a ++ b) = texts n a ++ texts (n + a.length) b := by
  induction a with
  | nil => intro n; rfl
  | cons x a ih => intro n; simp only [List.cons_append, texts, ih, List.length_cons]; rw [List.append_assoc]; congr 3; omega
theorem texts_take (l : List Bl) (i : Nat) (h : i < l.length) : texts 0 (l.take (i + 1)) = texts 0 (l.take i) ++ Bl.text { l[i] with num := i } := by
  rw [List.take_add_one, List.getElem?_eq_getElem h, texts_append]
  simp only [Option.toList_some, texts, List.append_nil, List.length_take, Nat.zero_add]
  rw [Nat.min_eq_left (by omega)]
theorem texts_len (l : List Bl) : ∀ n, (∀ b ∈ l, b.body.length ≤ 64) → (texts n l).length ≤ 74 * l.length := by
  induction l with
  | nil => intro n _; simp [texts]
  | cons x a ih =>
    intro n h
    have h1 := h x (by simp)
    have h2 := ih (n + 1) (fun b hb => h b (by simp [hb]))
    simp only [texts, List.length_append, Bl.text_len, List.length_cons]
    omega
/-- the blocks of a container from a place on, behind those that were read -/
def rdBl (d : Bytes) (k : Nat) (o : List Bl) : Option (List Bl) :=
  if h : k < d.length then
    if okP d k ∧ (blAt d k).num = o.length then rdBl d (enAt d k) (o ++ [blAt d k]) else none
  else some o
termination_by d.length - k
decreasing_by unfold enAt; omega
def blocks (d : Bytes) : Option (List Bl) := match rdBl d 0 [] with
  | some l => if sizes l ≤ 2000 then some l else none
  | none => none
theorem okP_facts {d : Bytes} {k : Nat} (h : okP d k) : (blAt d k).form = true ∧ enAt d k ≤ d.length ∧ k + 10 ≤ enAt d k := ⟨h.2.1, h.1.2.2.2, by unfold enAt; omega⟩
theorem rdBl_form (d : Bytes) : ∀ (m k : Nat) (o l : List Bl), d.length - k ≤ m → rdBl d k o = some l → (∀ b ∈ o, b.form = true) → o.length ≤ 40 → (∀ b ∈ l, b.form = true) ∧ l.length ≤ 40 := by
  intro m
  induction m with
  | zero =>
    intro k o l hm h ho hl
    rw [rdBl, dif_neg (by omega)] at h
    injection h with h; subst h; exact ⟨ho, hl⟩
  | succ m ih =>
    intro k o l hm h ho hl
    rw [rdBl] at h
    split at h
    · rename_i hk
      split at h
      · rename_i hx
        have hf := okP_facts hx.1
        have hn := (Bl.form_len hf.1).1
        refine ih (enAt d k) _ l (by unfold enAt; omega) h ?_ (by simp; omega)
        intro b hb
        simp at hb
        rcases hb with hb | hb
        · exact ho b hb
        · rw [hb]; exact hf.1
      · cases h
    · injection h with h; subst h; exact ⟨ho, hl⟩
theorem blocks_form {d : Bytes} {l : List Bl} (h : blocks d = some l) : (∀ b ∈ l, b.form = true) ∧ l.length ≤ 40 ∧ sizes l ≤ 2000 := by
  unfold blocks at h
  cases hr : rdBl d 0 [] with
  | none => rw [hr] at h; cases h
  | some l2 =>
    rw [hr] at h
    simp only at h
    split at h
    · injection h with h; subst h
      have := rdBl_form d d.length 0 [] l2 (by omega) hr (by simp) (by simp)
      exact ⟨this.1, this.2, by assumption⟩
    · cases h
instance decFits (c : Nat) (d : Bytes) : Decidable (Kn.fits c d) := by unfold Kn.fits; infer_instance
/-- the block of data, with a number -/
def mkBl (k : Kn) (n : Nat) (d : Bytes) : Bl :=
  if Kn.fits k.s.c d ∧ (Kn.compress k d).length < d.length then ⟨n, false, d.length, Kn.compress k d⟩ else ⟨n, true, d.length, d⟩
/-- the blocks of data, with a size -/
def split (k : Kn) (n : Nat) (d : Bytes) : List Bl :=
  if h : d = [] ∨ n = 0 then [] else mkBl k 0 (d.take n) :: split k n (d.drop n)
termination_by d.length
decreasing_by
  have h1 : d ≠ [] := fun e => h (Or.inl e)
  have h2 : n ≠ 0 := fun e => h (Or.inr e)
  have h3 : d.length ≠ 0 := by simpa using h1
  simp only [List.length_drop]; omega
theorem split_nil (k : Kn) (n : Nat) : split k n [] = [] := by rw [split]; simp
theorem split_cons (k : Kn) (n : Nat) (d : Bytes) (h : d ≠ []) (hn : n ≠ 0) : split k n d = mkBl k 0 (d.take n) :: split k n (d.drop n) := by
  rw [split, dif_neg (by simp [h, hn])]
theorem mkBl_size (k : Kn) (n : Nat) (d : Bytes) : (mkBl k n d).size = d.length := by unfold mkBl; split <;> rfl
theorem mkBl_body (k : Kn) (n : Nat) (d : Bytes) : (mkBl k n d).body.length ≤ d.length := by
  unfold mkBl; split
  · rename_i h; exact Nat.le_of_lt h.2
  · exact Nat.le_refl _
theorem split_facts (k : Kn) (n : Nat) (hn : n ≠ 0) (hn2 : n ≤ 64) : ∀ (m : Nat) (d : Bytes), d.length ≤ m → sizes (split k n d) = d.length ∧ (split k n d).length = (d.length + n - 1) / n ∧ (∀ b ∈ split k n d, b.size ≤ 64 ∧ b.body.length ≤ 64) := by
  intro m
  induction m with
  | zero =>
    intro d hd
    have : d = [] := by simpa using hd
    subst this
    rw [split_nil]
    refine ⟨rfl, ?_, by simp⟩
    simp; rw [Nat.div_eq_of_lt (by omega)]
  | succ m ih =>
    intro d hd
    by_cases h : d = []
    · subst h; rw [split_nil]; refine ⟨rfl, ?_, by simp⟩; simp; rw [Nat.div_eq_of_lt (by omega)]
    · have hl : d.length ≠ 0 := by simpa using h
      rw [split_cons k n d h hn]
      obtain ⟨i1, i2, i3⟩ := ih (d.drop n) (by simp; omega)
      refine ⟨?_, ?_, ?_⟩
      · show (mkBl k 0 (d.take n)).size + sizes _ = _
        rw [mkBl_size, i1]; simp; omega
      · rw [List.length_cons, i2, List.length_drop]
        by_cases hlt : d.length ≤ n
        · rw [Nat.sub_eq_zero_of_le hlt, Nat.zero_add, Nat.div_eq_of_lt (by omega)]
          symm; apply Nat.div_eq_of_lt_le <;> omega
        · rw [show d.length + n - 1 = (d.length - n + n - 1) + n by omega, Nat.add_div_right _ (by omega)]
      · intro b hb
        rw [List.mem_cons] at hb
        rcases hb with rfl | hb
        · refine ⟨by rw [mkBl_size]; simp; omega, ?_⟩
          have := mkBl_body k 0 (d.take n)
          simp at this ⊢; omega
        · exact i3 b hb
end M

namespace Go.Proofs.YtlaijbkonapdbaaGreat
open Go.RowKit
attribute [local go_sem] grow_cell grow_frozen conv_one conv_two

def cBl (l : List M.Bl) : List Value := l.flatMap fun b => [.int .i64 b.num, .bool b.raw, .int .i64 b.size, S b.body]
@[simp] theorem cBl_len (l : List M.Bl) : (cBl l).length = l.length * 4 := by
  induction l with
  | nil => rfl
  | cons a t ih => simp only [cBl, List.flatMap_cons, List.length_append, List.length_cons, List.length_nil] at ih ⊢; omega
theorem cBl_append (a b : List M.Bl) : cBl (a ++ b) = cBl a ++ cBl b := by simp [cBl]
theorem cBl_get (l : List M.Bl) (i : Nat) (h : i < l.length) : (cBl l)[i * 4]? = some (.int .i64 l[i].num) ∧ (cBl l)[i * 4 + 1]? = some (.bool l[i].raw) ∧ (cBl l)[i * 4 + 2]? = some (.int .i64 l[i].size) ∧ (cBl l)[i * 4 + 3]? = some (S l[i].body) := by
  have key := fun j hj => flat_get (fun b : M.Bl => [Value.int .i64 b.num, .bool b.raw, .int .i64 b.size, S b.body]) 4 (fun _ => rfl) l i j l[i] (by simp [h]) hj
  exact ⟨by have := key 0 (by omega); simpa [cBl] using this, by have := key 1 (by omega); simpa [cBl] using this, by have := key 2 (by omega); simpa [cBl] using this, by have := key 3 (by omega); simpa [cBl] using this⟩

section
variable (l : List M.Bl) (hl : l.length ≤ 100) (hz : ∀ b ∈ l, b.size ≤ 65535) (A : Option Addr) (c : Nat) (w : World) (hr : Rds w 4 A l.length (cBl l))
include hl hz hr
set_option maxHeartbeats 1000000 in
theorem v_l5Size : Calls Tryz.prog 35 #[.slice A l.length c] w fun e w' => e = .returned (.int .i64 (M.sizes l)) ∧ G w w' := by
  have hs0 : ∀ m, m ≤ l.length → M.sizes (l.take m) ≤ 6553500 := by
    intro m hm
    have := M.sizes_le (l.take m) 65535 (fun b hb => hz b (List.mem_of_mem_take hb))
    simp at this
    have h2 : 65535 * min m l.length ≤ 65535 * 100 := Nat.mul_le_mul_left _ (by omega)
    omega
  have HS := Lib.hid hs0
  have HZ := Lib.hid hz
  have HR := Lib.hid hr
  clear hs0 hz hr
  go_enter Tryz.func35, Tryz.ntmps35
  go_wp2
  go_loopw [3, 4] (fun x i wr => ∃ (m : Nat), i = .int .i64 m ∧ m ≤ l.length ∧ x = .int .i64 (M.sizes (l.take m)) ∧ G w wr) (fun _ i _ => l.length - (intOf i).toNat)
  case atStart => exact ⟨0, rfl, by omega, rfl, (by repeat' (first | (with_reducible exact G.refl _) | (with_reducible assumption) | (with_reducible refine G.alloc ?_ _) | (with_reducible refine G.drew ?_) | (with_reducible refine G.drewN ?_ _) | (refine G.setCell ?_ (by first | (simp <;> done) | (simp <;> omega)) _) | (with_reducible refine G.trans ?_ (by with_reducible assumption))))⟩
  case round =>
    obtain ⟨m, rfl, hm, rfl, hG⟩ := hrel
    have h1 := HS.out m hm
    obtain ⟨x, hx⟩ : ∃ x, M.sizes (l.take m) = x := ⟨_, rfl⟩
    rw [hx] at h1 ⊢
    have HX := Lib.hid hx
    clear hx
    by_cases hlt : m < l.length
    · have h2 := HZ.out l[m] (List.getElem_mem hlt)
      obtain ⟨g, rfl, hg, hcell⟩ := (HR.out.g hG).at_ (by omega)
      obtain ⟨q1, q2, q3, q4⟩ := cBl_get l m hlt
      have d3 := hcell _ _ q3
      have HT := Lib.hid (M.sizes_take l m hlt)
      generalize hpp : l[m].size = z at h2 d3 HT
      have HC := Lib.hid hcell
      clear hcell q1 q2 q3 q4 hpp
      go_wp2
      go_roundw
      case rel => exact ⟨m + 1, by go_num, by omega, by rw [HT.out, HX.out]; simp, (by repeat' (first | (with_reducible exact G.refl _) | (with_reducible assumption) | (with_reducible refine G.alloc ?_ _) | (with_reducible refine G.drew ?_) | (with_reducible refine G.drewN ?_ _) | (refine G.setCell ?_ (by first | (simp <;> done) | (simp <;> omega)) _) | (with_reducible refine G.trans ?_ (by with_reducible assumption))))⟩
      case measure => simp [intOf]; omega
    · go_wp2
      go_ret
      obtain rfl : m = l.length := by omega
      refine ⟨ret_int ?_, (by repeat' (first | (with_reducible exact G.refl _) | (with_reducible assumption) | (with_reducible refine G.alloc ?_ _) | (with_reducible refine G.drew ?_) | (with_reducible refine G.drewN ?_ _) | (refine G.setCell ?_ (by first | (simp <;> done) | (simp <;> omega)) _) | (with_reducible refine G.trans ?_ (by with_reducible assumption))))⟩
      have e := HX.out
      rw [List.take_of_length_le (Nat.le_refl _)] at e
      rw [e]
set_option maxHeartbeats 1000000 in
theorem v_sizeOf : Calls Tryz.prog 30 #[.slice A l.length c] w fun e w' => e = .returned (.int .i64 (M.sizes l)) ∧ G w w' := by
  have hs0 : ∀ m, m ≤ l.length → M.sizes (l.take m) ≤ 6553500 := by
    intro m hm
    have := M.sizes_le (l.take m) 65535 (fun b hb => hz b (List.mem_of_mem_take hb))
    simp at this
    have h2 : 65535 * min m l.length ≤ 65535 * 100 := Nat.mul_le_mul_left _ (by omega)
    omega
  have HS := Lib.hid hs0
  have HZ := Lib.hid hz
  have HR := Lib.hid hr
  clear hs0 hz hr
  go_enter Tryz.func30, Tryz.ntmps30
  go_wp2
  go_loopw [3, 8] (fun x i wr => ∃ (m : Nat), i = .int .i64 m ∧ m ≤ l.length ∧ x = .int .i64 (M.sizes (l.take m)) ∧ G w wr) (fun _ i _ => l.length - (intOf i).toNat)
  case atStart => exact ⟨0, rfl, by omega, rfl, (by repeat' (first | (with_reducible exact G.refl _) | (with_reducible assumption) | (with_reducible refine G.alloc ?_ _) | (with_reducible refine G.drew ?_) | (with_reducible refine G.drewN ?_ _) | (refine G.setCell ?_ (by first | (simp <;> done) | (simp <;> omega)) _) | (with_reducible refine G.trans ?_ (by with_reducible assumption))))⟩
  case round =>
    obtain ⟨m, rfl, hm, rfl, hG⟩ := hrel
    have h1 := HS.out m hm
    obtain ⟨x, hx⟩ : ∃ x, M.sizes (l.take m) = x := ⟨_, rfl⟩
    rw [hx] at h1 ⊢
    have HX := Lib.hid hx
    clear hx
    by_cases hlt : m < l.length
    · have h2 := HZ.out l[m] (List.getElem_mem hlt)
      obtain ⟨g, rfl, hg, hcell⟩ := (HR.out.g hG).at_ (by omega)
      obtain ⟨q1, q2, q3, q4⟩ := cBl_get l m hlt
      have d0 := hcell _ _ q1
      have d1 := hcell _ _ q2
      have d2 := hcell _ _ q3
      have d3 := hcell _ _ q4
      have HT := Lib.hid (M.sizes_take l m hlt)
      generalize hpp : l[m].size = z at h2 d2 HT
      obtain ⟨y, hy⟩ : ∃ y : ByteArray, S l[m].body = .string y := ⟨_, rfl⟩
      rw [hy] at d3
      have HC := Lib.hid hcell
      clear hcell q1 q2 q3 q4 hpp hy
      go_wp2
      go_roundw
      case rel => exact ⟨m + 1, by go_num, by omega, by rw [HT.out, HX.out]; simp, (by repeat' (first | (with_reducible exact G.refl _) | (with_reducible assumption) | (with_reducible refine G.alloc ?_ _) | (with_reducible refine G.drew ?_) | (with_reducible refine G.drewN ?_ _) | (refine G.setCell ?_ (by first | (simp <;> done) | (simp <;> omega)) _) | (with_reducible refine G.trans ?_ (by with_reducible assumption))))⟩
      case measure => simp [intOf]; omega
    · go_wp2
      go_ret
      obtain rfl : m = l.length := by omega
      refine ⟨ret_int ?_, (by repeat' (first | (with_reducible exact G.refl _) | (with_reducible assumption) | (with_reducible refine G.alloc ?_ _) | (with_reducible refine G.drew ?_) | (with_reducible refine G.drewN ?_ _) | (refine G.setCell ?_ (by first | (simp <;> done) | (simp <;> omega)) _) | (with_reducible refine G.trans ?_ (by with_reducible assumption))))⟩
      have e := HX.out
      rw [List.take_of_length_le (Nat.le_refl _)] at e
      rw [e]
set_option maxHeartbeats 1000000 in
theorem v_l6Fits (q : Bool) (hq : decide (l.length ≤ 40 ∧ M.sizes l ≤ 2000) = q) : Calls Tryz.prog 23 #[.slice A l.length c] w fun e w' => e = .returned (.bool q) ∧ G w w' := by
  have hs0 : M.sizes l ≤ 6553500 := by
    have := M.sizes_le l 65535 hz
    have h2 : 65535 * l.length ≤ 65535 * 100 := Nat.mul_le_mul_left _ hl
    omega
  have HR := Lib.hid hr
  have HZ := Lib.hid hz
  clear hr hz
  by_cases h1 : l.length ≤ 40
  · by_cases h2 : M.sizes l ≤ 2000
    · obtain rfl : q = true := by rw [← hq]; simp [h1, h2]
      clear hq
      go_enter Tryz.func23, Tryz.ntmps23
      go_wp2_with (first | (go_at_call 35; refine (v_l5Size l hl HZ.out A c _ (HR.out.g (by repeat' (first | (with_reducible exact G.refl _) | (with_reducible assumption) | (with_reducible refine G.alloc ?_ _) | (with_reducible refine G.drew ?_) | (with_reducible refine G.drewN ?_ _) | (refine G.setCell ?_ (by first | (simp <;> done) | (simp <;> omega)) _) | (with_reducible refine G.trans ?_ (by with_reducible assumption)))))).mono ?_; rintro e w' ⟨rfl, h5⟩; obtain ⟨hch5, hfh5⟩ := gcell h5; try (have hzh5 : w.heap.size < w'.heap.size := by have := h5.size; (try simp at this); omega); try (have hyh5 : w.heap.size + 1 < w'.heap.size := by have := h5.size; (try simp at this); omega)) | fail)
      go_ret
      exact ⟨ret_bool (decide_eq_true (by omega)), (by repeat' (first | (with_reducible exact G.refl _) | (with_reducible assumption) | (with_reducible refine G.alloc ?_ _) | (with_reducible refine G.drew ?_) | (with_reducible refine G.drewN ?_ _) | (refine G.setCell ?_ (by first | (simp <;> done) | (simp <;> omega)) _) | (with_reducible refine G.trans ?_ (by with_reducible assumption))))⟩
    · obtain rfl : q = false := by rw [← hq]; simp [h2]
      clear hq
      go_enter Tryz.func23, Tryz.ntmps23
      go_wp2_with (first | (go_at_call 35; refine (v_l5Size l hl HZ.out A c _ (HR.out.g (by repeat' (first | (with_reducible exact G.refl _) | (with_reducible assumption) | (with_reducible refine G.alloc ?_ _) | (with_reducible refine G.drew ?_) | (with_reducible refine G.drewN ?_ _) | (refine G.setCell ?_ (by first | (simp <;> done) | (simp <;> omega)) _) | (with_reducible refine G.trans ?_ (by with_reducible assumption)))))).mono ?_; rintro e w' ⟨rfl, h5⟩; obtain ⟨hch5, hfh5⟩ := gcell h5; try (have hzh5 : w.heap.size < w'.heap.size := by have := h5.size; (try simp at this); omega); try (have hyh5 : w.heap.size + 1 < w'.heap.size := by have := h5.size; (try simp at this); omega)) | fail)
      go_ret
      exact ⟨ret_bool (decide_eq_false (by omega)), (by repeat' (first | (with_reducible exact G.refl _) | (with_reducible assumption) | (with_reducible refine G.alloc ?_ _) | (with_reducible refine G.drew ?_) | (with_reducible refine G.drewN ?_ _) | (refine G.setCell ?_ (by first | (simp <;> done) | (simp <;> omega)) _) | (with_reducible refine G.trans ?_ (by with_reducible assumption))))⟩
  · obtain rfl : q = false := by rw [← hq]; simp [h1]
    clear hq
    go_enter Tryz.func23, Tryz.ntmps23
    go_wp2
    go_ret
    exact ⟨rfl, (by repeat' (first | (with_reducible exact G.refl _) | (with_reducible assumption) | (with_reducible refine G.alloc ?_ _) | (with_reducible refine G.drew ?_) | (with_reducible refine G.drewN ?_ _) | (refine G.setCell ?_ (by first | (simp <;> done) | (simp <;> omega)) _) | (with_reducible refine G.trans ?_ (by with_reducible assumption))))⟩
/-- a row of blocks with new numbers: its texts -/
theorem S_text (n z : Nat) (r : Bool) (y : ByteArray) : S (M.Bl.text ⟨n, r, z, bs y⟩) = .string ⟨(M.Bl.text ⟨n, r, z, bs y⟩).toArray⟩ := rfl
omit hz in
set_option maxHeartbeats 2000000 in
theorem v_l6Texts (hb : ∀ b ∈ l, b.size ≤ 65535 ∧ b.body.length ≤ 64) : Calls Tryz.prog 24 #[.slice A l.length c, .int .i64 0] w fun e w' => e = .returned (S (M.texts 0 l)) ∧ G w w' := by
  have HZ := Lib.hid hb
  have HR := Lib.hid hr
  have hs0 : ∀ m, m ≤ l.length → (M.texts 0 (l.take m)).length ≤ 7400 := by
    intro m hm
    have := M.texts_len (l.take m) 0 (fun b h => (hb b (List.mem_of_mem_take h)).2)
    simp at this
    have h2 : 74 * min m l.length ≤ 74 * 100 := Nat.mul_le_mul_left _ (by omega)
    omega
  have HS := Lib.hid hs0
  clear hb hr hs0
  go_enter Tryz.func24, Tryz.ntmps24
  go_wp2
  go_loopw [5, 6] (fun x i wr => ∃ (m : Nat) (o : ByteArray), i = .int .i64 m ∧ m ≤ l.length ∧ x = .string o ∧ Hid (bs o = M.texts 0 (l.take m)) ∧ G w wr) (fun _ i _ => l.length - (intOf i).toNat)
  case atStart => exact ⟨0, _, rfl, by omega, rfl, rfl, (by repeat' (first | (with_reducible exact G.refl _) | (with_reducible assumption) | (with_reducible refine G.alloc ?_ _) | (with_reducible refine G.drew ?_) | (with_reducible refine G.drewN ?_ _) | (refine G.setCell ?_ (by first | (simp <;> done) | (simp <;> omega)) _) | (with_reducible refine G.trans ?_ (by with_reducible assumption))))⟩
  case round =>
    obtain ⟨m, o, rfl, hm, rfl, HO, hG⟩ := hrel
    have ho : o.size ≤ 7400 := by rw [bs_size, HO.out]; exact HS.out m hm
    by_cases hlt : m < l.length
    · obtain ⟨h2, h3⟩ := HZ.out l[m] (List.getElem_mem hlt)
      obtain ⟨g, rfl, hg, hcell⟩ := (HR.out.g hG).at_ (by omega)
      obtain ⟨q1, q2, q3, q4⟩ := cBl_get l m hlt
      have d0 := hcell _ _ q1
      have d1 := hcell _ _ q2
      have d2 := hcell _ _ q3
      have d3 := hcell _ _ q4
      have HT := Lib.hid (M.texts_take l m hlt)
      generalize hpp : l[m] = p at h2 h3 d0 d1 d2 d3 HT
      obtain ⟨y, hy⟩ : ∃ y : ByteArray, y = ⟨p.body.toArray⟩ := ⟨_, rfl⟩
      have hby : bs y = p.body := by rw [hy]; rfl
      rw [show S p.body = .string y by rw [hy]; rfl] at d3
      have hyz : y.size ≤ 64 := by rw [bs_size, hby]; exact h3
      have HT : Hid (M.texts 0 (l.take (m + 1)) = M.texts 0 (l.take m) ++ M.Bl.text ⟨m, p.raw, p.size, bs y⟩) := by show _ = _; rw [HT.out, hby]
      have HC := Lib.hid hcell
      obtain ⟨yt, hyt⟩ : ∃ y' : ByteArray, y' = ⟨(M.Bl.text ⟨m, p.raw, p.size, bs y⟩).toArray⟩ := ⟨_, rfl⟩
      have HYT : Hid (S (M.Bl.text ⟨m, p.raw, p.size, bs y⟩) = .string yt) := by show _ = _; rw [hyt]; rfl
      have hbt : bs yt = M.Bl.text ⟨m, p.raw, p.size, bs y⟩ := by rw [hyt]; rfl
      have hytz : yt.size ≤ 74 := by rw [bs_size, hbt, M.Bl.text_len, ← bs_size]; show 10 + y.size ≤ 74; omega
      have HBT := Lib.hid hbt
      generalize p.num = pn at d0
      generalize p.raw = pr at *
      generalize p.size = pz at *
      clear hcell q1 q2 q3 q4 hpp hy hby h3 hyt hbt
      have hq9 : ¬ 9223372036854775807 < o.size + yt.size := by omega
      go_wp2_with (first | (go_at_call 40; refine (v_l5Text m pz pr y (by omega) (by omega) (by omega) _).mono ?_; rintro e w' ⟨rfl, h9⟩; obtain ⟨hch9, hfh9⟩ := gcell h9; rw [HYT.out]) | fail)
      go_roundw
      case rel => exact ⟨m + 1, _, by go_num, by omega, rfl, by show _ = _; rw [bs_append, HO.out, HBT.out, HT.out], (by repeat' (first | (with_reducible exact G.refl _) | (with_reducible assumption) | (with_reducible refine G.alloc ?_ _) | (with_reducible refine G.drew ?_) | (with_reducible refine G.drewN ?_ _) | (refine G.setCell ?_ (by first | (simp <;> done) | (simp <;> omega)) _) | (with_reducible refine G.trans ?_ (by with_reducible assumption))))⟩
      case measure => simp [intOf]; omega
    · go_wp2
      go_ret
      obtain rfl : m = l.length := by omega
      refine ⟨?_, (by repeat' (first | (with_reducible exact G.refl _) | (with_reducible assumption) | (with_reducible refine G.alloc ?_ _) | (with_reducible refine G.drew ?_) | (with_reducible refine G.drewN ?_ _) | (refine G.setCell ?_ (by first | (simp <;> done) | (simp <;> omega)) _) | (with_reducible refine G.trans ?_ (by with_reducible assumption))))⟩
      have e := HO.out
      rw [List.take_of_length_le (Nat.le_refl _)] at e
      rw [← bs_eq e]; rfl
set_option maxHeartbeats 1000000 in
theorem v_l6Result (hb : ∀ b ∈ l, b.body.length ≤ 64) (q : Bool) (hq : decide (l.length ≤ 40 ∧ M.sizes l ≤ 2000) = q) : Calls Tryz.prog 13 #[.slice A l.length c] w fun e w' => e = .returned (.tuple #[if q then S (M.texts 0 l) else .string ⟨#[]⟩, .bool q]) ∧ G w w' := by
  have HB : Hid (∀ b ∈ l, b.size ≤ 65535 ∧ b.body.length ≤ 64) := fun b h => ⟨hz b h, hb b h⟩
  have HR := Lib.hid hr
  have HZ := Lib.hid hz
  have HQ := Lib.hid hq
  clear hr hz hb hq
  cases q
  all_goals
    go_enter Tryz.func13, Tryz.ntmps13
    go_wp2_with (first | (go_at_call 23; refine (v_l6Fits l hl HZ.out A c _ (HR.out.g (by repeat' (first | (with_reducible exact G.refl _) | (with_reducible assumption) | (with_reducible refine G.alloc ?_ _) | (with_reducible refine G.drew ?_) | (with_reducible refine G.drewN ?_ _) | (refine G.setCell ?_ (by first | (simp <;> done) | (simp <;> omega)) _) | (with_reducible refine G.trans ?_ (by with_reducible assumption))))) _ HQ.out).mono ?_; rintro e w' ⟨rfl, h5⟩; obtain ⟨hch5, hfh5⟩ := gcell h5; try (have hzh5 : w.heap.size < w'.heap.size := by have := h5.size; (try simp at this); omega); try (have hyh5 : w.heap.size + 1 < w'.heap.size := by have := h5.size; (try simp at this); omega)) | (go_at_call 24; refine (v_l6Texts l hl A c _ (HR.out.g (by repeat' (first | (with_reducible exact G.refl _) | (with_reducible assumption) | (with_reducible refine G.alloc ?_ _) | (with_reducible refine G.drew ?_) | (with_reducible refine G.drewN ?_ _) | (refine G.setCell ?_ (by first | (simp <;> done) | (simp <;> omega)) _) | (with_reducible refine G.trans ?_ (by with_reducible assumption))))) HB.out).mono ?_; rintro e w' ⟨rfl, h6⟩; obtain ⟨hch6, hfh6⟩ := gcell h6; try (have hzh6 : w.heap.size < w'.heap.size := by have := h6.size; (try simp at this); omega); try (have hyh6 : w.heap.size + 1 < w'.heap.size := by have := h6.size; (try simp at this); omega)) | fail)
    go_ret2
    exact ⟨rfl, (by repeat' (first | (with_reducible exact G.refl _) | (with_reducible assumption) | (with_reducible refine G.alloc ?_ _) | (with_reducible refine G.drew ?_) | (with_reducible refine G.drewN ?_ _) | (refine G.setCell ?_ (by first | (simp <;> done) | (simp <;> omega)) _) | (with_reducible refine G.trans ?_ (by with_reducible assumption))))⟩
end
end Go.Proofs.YtlaijbkonapdbaaGreat

namespace Go.Proofs.YtlaijbkonapdbaaGreat
open Go.RowKit
attribute [local go_sem] grow_cell grow_frozen conv_one conv_two

theorem cells4b {w : World} {g : Nat} {v0 v1 v2 v3 : Value} (h0 : w.cell? ⟨g, 0, none⟩ = some v0) (h1 : w.cell? ⟨g, 1, none⟩ = some v1) (h2 : w.cell? ⟨g, 2, none⟩ = some v2) (h3 : w.cell? ⟨g, 3, none⟩ = some v3) :
    ∀ j v, [v0, v1, v2, v3][j]? = some v → w.cell? ⟨g, j, none⟩ = some v := by
  intro j v h
  match j, h with
  | 0, h => simp at h; subst h; exact h0
  | 1, h => simp at h; subst h; exact h1
  | 2, h => simp at h; subst h; exact h2
  | 3, h => simp at h; subst h; exact h3
section
variable (s : M.St) (hs : s.Ok) (d : M.Bytes) (b : ByteArray) (hb : bs b = d) (hz : b.size ≤ 100000000) (w : World)
include hs hb hz
theorem v_l5Ready (q : Bool) (hq : decide (b.size ≤ 2000 ∧ M.Kn.fits s.c d) = q) : Calls Tryz.prog 21 #[stV s, .string b] w fun e w' => e = .returned (.bool q) ∧ G w w' := by
  have HB := Lib.hid hb
  have HQ := Lib.hid hq
  clear hb hq
  go_enter Tryz.func21, Tryz.ntmps21
  go_wp2_with (first | (go_at_call 41; refine (v_DataFits_spec s hs d b HB.out hz q _ HQ.out).mono ?_; rintro e w' ⟨rfl, h2⟩; obtain ⟨hch2, hfh2⟩ := gcell h2; try (have hzh2 : w.heap.size < w'.heap.size := by have := h2.size; (try simp at this); omega); try (have hyh2 : w.heap.size + 1 < w'.heap.size := by have := h2.size; (try simp at this); omega)) | fail)
  go_ret
  exact ⟨rfl, (by repeat' (first | (with_reducible exact G.refl _) | (with_reducible assumption) | (with_reducible refine G.alloc ?_ _) | (with_reducible refine G.drew ?_) | (with_reducible refine G.drewN ?_ _) | (refine G.setCell ?_ (by first | (simp <;> done) | (simp <;> omega)) _) | (with_reducible refine G.trans ?_ (by with_reducible assumption))))⟩
theorem v_l6Room (n : Int) (q : Bool) (hq : decide ((b.size ≤ 2000 ∧ M.Kn.fits s.c d) ∧ 1 ≤ n ∧ n ≤ 64) = q) : Calls Tryz.prog 11 #[stV s, .string b, .int .i64 n] w fun e w' => e = .returned (.bool q) ∧ G w w' := by
  have HB := Lib.hid hb
  clear hb
  by_cases h : b.size ≤ 2000 ∧ M.Kn.fits s.c d
  · have HQ : Hid (decide (b.size ≤ 2000 ∧ M.Kn.fits s.c d) = true) := decide_eq_true h
    have HR : Hid (decide (1 ≤ n ∧ n ≤ 64) = q) := by show _ = _; rw [← hq]; exact decide_eq_decide.mpr ⟨fun h2 => ⟨h, h2⟩, fun h2 => h2.2⟩
    clear hq h
    go_enter Tryz.func11, Tryz.ntmps11
    go_wp2_with (first | (go_at_call 21; refine (v_l5Ready s hs d b HB.out hz _ true HQ.out).mono ?_; rintro e w' ⟨rfl, h2⟩; obtain ⟨hch2, hfh2⟩ := gcell h2; try (have hzh2 : w.heap.size < w'.heap.size := by have := h2.size; (try simp at this); omega); try (have hyh2 : w.heap.size + 1 < w'.heap.size := by have := h2.size; (try simp at this); omega)) | (go_at_call 22; refine (c_l1In_q _ 1 64 q HR.out _).mono ?_; rintro e w' ⟨rfl, rfl⟩) | fail)
    go_ret
    exact ⟨rfl, (by repeat' (first | (with_reducible exact G.refl _) | (with_reducible assumption) | (with_reducible refine G.alloc ?_ _) | (with_reducible refine G.drew ?_) | (with_reducible refine G.drewN ?_ _) | (refine G.setCell ?_ (by first | (simp <;> done) | (simp <;> omega)) _) | (with_reducible refine G.trans ?_ (by with_reducible assumption))))⟩
  · have HQ : Hid (decide (b.size ≤ 2000 ∧ M.Kn.fits s.c d) = false) := decide_eq_false h
    obtain rfl : q = false := by rw [← hq]; exact decide_eq_false (fun h2 => h h2.1)
    clear hq h
    go_enter Tryz.func11, Tryz.ntmps11
    go_wp2_with (first | (go_at_call 21; refine (v_l5Ready s hs d b HB.out hz _ false HQ.out).mono ?_; rintro e w' ⟨rfl, h2⟩; obtain ⟨hch2, hfh2⟩ := gcell h2; try (have hzh2 : w.heap.size < w'.heap.size := by have := h2.size; (try simp at this); omega); try (have hyh2 : w.heap.size + 1 < w'.heap.size := by have := h2.size; (try simp at this); omega)) | fail)
    go_ret
    exact ⟨rfl, (by repeat' (first | (with_reducible exact G.refl _) | (with_reducible assumption) | (with_reducible refine G.alloc ?_ _) | (with_reducible refine G.drew ?_) | (with_reducible refine G.drewN ?_ _) | (refine G.setCell ?_ (by first | (simp <;> done) | (simp <;> omega)) _) | (with_reducible refine G.trans ?_ (by with_reducible assumption))))⟩
set_option maxHeartbeats 2000000 in
theorem v_l5Block (hd : b.size ≤ 2000 ∧ M.Kn.fits s.c d) (n : Nat) (t : M.Bytes) (y : ByteArray) (hy : bs y = t) (hyz : y.size ≤ 64) : Calls Tryz.prog 25 #[stV s, .string b, .int .i64 n, .string y] w fun e w' => (∃ p, p = M.mkBl (M.Kn.learnK (M.start s) d) n t ∧ e = .returned (.agg #[.int .i64 p.num, .bool p.raw, .int .i64 p.size, S p.body])) ∧ G w w' := by
  have HB := Lib.hid hb
  have HY := Lib.hid hy
  have HD := Lib.hid hd
  have hks : (M.Kn.learnK (M.start s) d).s = s := (M.Kn.learnK_V (M.start_V hs) (d := d) hd.2).2
  have htl : t.length ≤ 64 := by rw [← hy, ← bs_size]; exact hyz
  obtain ⟨q, hq⟩ : ∃ q, decide (M.Kn.fits s.c t) = q := ⟨_, rfl⟩
  have HQ := Lib.hid hq
  obtain ⟨yc, hyc⟩ : ∃ yc : ByteArray, yc = ⟨(M.Kn.compress (M.Kn.learnK (M.start s) d) t).toArray⟩ := ⟨_, rfl⟩
  have HYC : Hid ((if q then S (M.Kn.compress (M.Kn.learnK (M.start s) d) t) else .string (ByteArray.mk #[])) = .string (if q then yc else ⟨#[]⟩)) := by show _ = _; rw [hyc]; cases q <;> rfl
  have hcz : (M.Kn.compress (M.Kn.learnK (M.start s) d) t).length = yc.size := by rw [bs_size, hyc]; rfl
  have hsy : S t = .string y := (bs_eq hy).symm
  have hcS : S (M.Kn.compress (M.Kn.learnK (M.start s) d) t) = .string yc := by rw [hyc]; rfl
  have hlen : t.length = y.size := by rw [bs_size, hy]
  have hmk : M.mkBl (M.Kn.learnK (M.start s) d) n t = if q = true ∧ yc.size < y.size then ⟨n, false, y.size, M.Kn.compress (M.Kn.learnK (M.start s) d) t⟩ else ⟨n, true, y.size, t⟩ := by
    unfold M.mkBl
    rw [hks, hcz, hlen]
    by_cases h : M.Kn.fits s.c t <;> simp [h, ← hq]
  cases q
  · have HM : Hid (M.mkBl (M.Kn.learnK (M.start s) d) n t = ⟨n, true, y.size, t⟩) := by show _ = _; rw [hmk]; simp
    have HS := Lib.hid hsy
    clear hb hy hd hks hq hyc hcz hcS hlen hmk hsy
    go_enter Tryz.func25, Tryz.ntmps25
    go_wp2_with (first | (go_at_call 42; refine (v_CompressWith_spec s hs _ d b HB.out hz HD.out t (by omega) y HY.out false HQ.out).mono ?_; rintro e w' ⟨rfl, h3⟩; obtain ⟨hch3, hfh3⟩ := gcell h3; rw [HYC.out]) | fail)
    refine bodyPost_ret (results_cells rfl _ _ (w.heap.size + 1) [.int .i64 n, .bool true, .int .i64 y.size, .string y] _ rfl (cells4b (by go_cell) (by go_cell) (by go_cell) (by go_cell)) Tryz.underlying46 rfl (by kernel_rfl)) rfl ?_
    refine ⟨⟨_, rfl, ?_⟩, (by repeat' (first | (with_reducible exact G.refl _) | (with_reducible assumption) | (with_reducible refine G.alloc ?_ _) | (with_reducible refine G.drew ?_) | (with_reducible refine G.drewN ?_ _) | (refine G.setCell ?_ (by first | (simp <;> done) | (simp <;> omega)) _) | (with_reducible refine G.trans ?_ (by with_reducible assumption))))⟩
    rw [HM.out, HS.out]
  · by_cases hlt : yc.size < y.size
    · have HM : Hid (M.mkBl (M.Kn.learnK (M.start s) d) n t = ⟨n, false, y.size, M.Kn.compress (M.Kn.learnK (M.start s) d) t⟩) := by show _ = _; rw [hmk]; simp [hlt]
      have HS := Lib.hid hcS
      clear hb hy hd hks hq hyc hcz hcS hlen hmk hsy
      go_enter Tryz.func25, Tryz.ntmps25
      go_wp2_with (first | (go_at_call 42; refine (v_CompressWith_spec s hs _ d b HB.out hz HD.out t (by omega) y HY.out true HQ.out).mono ?_; rintro e w' ⟨rfl, h3⟩; obtain ⟨hch3, hfh3⟩ := gcell h3; rw [HYC.out]) | fail)
      refine bodyPost_ret (results_cells rfl _ _ (w.heap.size + 1) [.int .i64 n, .bool false, .int .i64 y.size, .string yc] _ rfl (cells4b (by go_cell) (by go_cell) (by go_cell) (by go_cell)) Tryz.underlying46 rfl (by kernel_rfl)) rfl ?_
      refine ⟨⟨_, rfl, ?_⟩, (by repeat' (first | (with_reducible exact G.refl _) | (with_reducible assumption) | (with_reducible refine G.alloc ?_ _) | (with_reducible refine G.drew ?_) | (with_reducible refine G.drewN ?_ _) | (refine G.setCell ?_ (by first | (simp <;> done) | (simp <;> omega)) _) | (with_reducible refine G.trans ?_ (by with_reducible assumption))))⟩
      rw [HM.out, HS.out]
    · have HM : Hid (M.mkBl (M.Kn.learnK (M.start s) d) n t = ⟨n, true, y.size, t⟩) := by show _ = _; rw [hmk]; simp [hlt]
      have HS := Lib.hid hsy
      clear hb hy hd hks hq hyc hcz hcS hlen hmk hsy
      go_enter Tryz.func25, Tryz.ntmps25
      go_wp2_with (first | (go_at_call 42; refine (v_CompressWith_spec s hs _ d b HB.out hz HD.out t (by omega) y HY.out true HQ.out).mono ?_; rintro e w' ⟨rfl, h3⟩; obtain ⟨hch3, hfh3⟩ := gcell h3; rw [HYC.out]) | fail)
      refine bodyPost_ret (results_cells rfl _ _ (w.heap.size + 1) [.int .i64 n, .bool true, .int .i64 y.size, .string y] _ rfl (cells4b (by go_cell) (by go_cell) (by go_cell) (by go_cell)) Tryz.underlying46 rfl (by kernel_rfl)) rfl ?_
      refine ⟨⟨_, rfl, ?_⟩, (by repeat' (first | (with_reducible exact G.refl _) | (with_reducible assumption) | (with_reducible refine G.alloc ?_ _) | (with_reducible refine G.drew ?_) | (with_reducible refine G.drewN ?_ _) | (refine G.setCell ?_ (by first | (simp <;> done) | (simp <;> omega)) _) | (with_reducible refine G.trans ?_ (by with_reducible assumption))))⟩
      rw [HM.out, HS.out]
end
theorem v_l6Many (b : ByteArray) (hz : b.size ≤ 100000000) (n : Nat) (hn : n ≤ 64) (w : World) (q : Bool) (hq : decide (b.size > 2000 ∨ b.size > n * 40) = q) : Calls Tryz.prog 12 #[.string b, .int .i64 n] w fun e w' => e = .returned (.bool q) ∧ G w w' := by
  have HQ := Lib.hid hq
  clear hq
  by_cases h1 : 2000 < b.size
  · go_enter Tryz.func12, Tryz.ntmps12
    go_wp2
    go_ret
    refine ⟨ret_bool ?_, (by repeat' (first | (with_reducible exact G.refl _) | (with_reducible assumption) | (with_reducible refine G.alloc ?_ _) | (with_reducible refine G.drew ?_) | (with_reducible refine G.drewN ?_ _) | (refine G.setCell ?_ (by first | (simp <;> done) | (simp <;> omega)) _) | (with_reducible refine G.trans ?_ (by with_reducible assumption))))⟩
    rw [← HQ.out]; symm; apply decide_eq_true; omega
  · go_enter Tryz.func12, Tryz.ntmps12
    go_wp2
    go_ret
    refine ⟨ret_bool ?_, (by repeat' (first | (with_reducible exact G.refl _) | (with_reducible assumption) | (with_reducible refine G.alloc ?_ _) | (with_reducible refine G.drew ?_) | (with_reducible refine G.drewN ?_ _) | (refine G.setCell ?_ (by first | (simp <;> done) | (simp <;> omega)) _) | (with_reducible refine G.trans ?_ (by with_reducible assumption))))⟩
    rw [← HQ.out]
    rw [← Bool.decide_or]
    exact decide_eq_decide.mpr (by omega)
end Go.Proofs.YtlaijbkonapdbaaGreat
