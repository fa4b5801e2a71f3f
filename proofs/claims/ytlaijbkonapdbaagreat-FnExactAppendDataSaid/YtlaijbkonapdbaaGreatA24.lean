/-
  FnExactAppendDataSaid is proved: for every input FnExactAppendData returns true, and each argument reads afterwards as it read before; no conditions. Part 24 of 25.
-/
import Derived.Test.YtlaijbkonapdbaaGreatA16
import Derived.Test.YtlaijbkonapdbaaGreatA20
import Derived.Test.YtlaijbkonapdbaaGreatA22
import Derived.Test.YtlaijbkonapdbaaGreatA23

set_option linter.all false

namespace Go.Proofs.YtlaijbkonapdbaaGreat
open Go.RowKit
attribute [local go_sem] grow_cell grow_frozen conv_one conv_two
theorem v_ParseBlock_impl (b : ByteArray) (k : Nat) (hb : b.size ≤ 100000000) (hk : k ≤ 100000000) (rq : Bool) (hrq : decide (M.okP (bs b) k) = rq) (w : World) :
    Calls Tryz.prog 45 #[.string b, .int .i64 k] w fun e w' => e = .returned (if rq then .tuple #[.agg #[.int .i64 (M.blAt (bs b) k).num, .bool (M.blAt (bs b) k).raw, .int .i64 (M.blAt (bs b) k).size, S (M.blAt (bs b) k).body], .int .i64 (M.enAt (bs b) k), .bool true] else .tuple #[.agg #[.int .i64 0, .bool false, .int .i64 0, .string ⟨#[]⟩], .int .i64 0, .bool false]) ∧ G w w' := by
  have hrq2 : decide (M.okI (bs b) k) = rq := by rw [← hrq]; exact decide_eq_decide.mpr (M.okP_iff _ _).symm
  by_cases he : M.heAt (bs b) k
  · exact i_ParseBlock_c b k hb hk w he rq hrq2 ⟨(M.blAt (bs b) k).body.toArray⟩ rfl
  · obtain rfl : rq = false := by rw [← hrq]; exact decide_eq_false (fun h => he h.1)
    by_cases h1 : k + 10 ≤ b.size ∧ M.by1 (bs b) k = 181 ∧ M.by1 (bs b) (k + 1) ≤ 1
    · refine i_ParseBlock_b b k hb hk w h1.1 h1.2.1 h1.2.2 (fun h => he ⟨by rw [← bs_size]; exact h1.1, h1.2.1, h1.2.2, by rw [← bs_size]; exact h⟩)
    · exact i_ParseBlock_a b k hb hk w h1
section
variable (b : ByteArray) (hb : b.size ≤ 10000000) (w : World)
include hb
set_option maxRecDepth 4000 in
set_option maxHeartbeats 4000000 in
theorem v_ContainerBlocks : Calls Tryz.prog 27 #[.string b] w fun e w' => GivesB (M.blocks (bs b)) w e w' := by
  go_enter Tryz.func27, Tryz.ntmps27
  go_wp2
  go_loopw [4, 5] (fun v i wr => ∃ (o : List M.Bl) (k : Nat), i = .int .i64 k ∧ k ≤ b.size ∧ wr.ownsRow w.heap.size 46 4 v o.length (cBl o) ∧ Hid (M.rdBl (bs b) 0 [] = M.rdBl (bs b) k o) ∧ Hid (∀ p ∈ o, p.form = true) ∧ o.length ≤ 40 ∧ G w wr) (fun _ i _ => b.size - (intOf i).toNat)
  case atStart => exact ⟨[], 0, rfl, by omega, World.ownsRow_nil _ _ _ _, rfl, (fun p hp => by simp at hp), by simp, (by repeat' (first | (with_reducible exact G.refl _) | (with_reducible assumption) | (with_reducible refine G.alloc ?_ _) | (with_reducible refine G.drew ?_) | (with_reducible refine G.drewN ?_ _) | (refine G.setCell ?_ (by first | (simp <;> done) | (simp <;> omega)) _) | (with_reducible refine G.trans ?_ (by with_reducible assumption))))⟩
  case round =>
    obtain ⟨o, k, rfl, hk, hown, HR, HF, hol, hG⟩ := hrel
    obtain ⟨A0, c0, rfl⟩ := own_form hown
    by_cases hlt : k < b.size
    · have hlt2 : k < (bs b).length := by rw [← bs_size]; exact hlt
      by_cases hp : M.okP (bs b) k
      · have HP : Hid (decide (M.okP (bs b) k) = true) := decide_eq_true hp
        have hf := M.okP_facts hp
        have hfl := M.Bl.form_len hf.1
        by_cases hn : (M.blAt (bs b) k).num = o.length
        · have HR2 : Hid (M.rdBl (bs b) 0 [] = M.rdBl (bs b) (M.enAt (bs b) k) (o ++ [M.blAt (bs b) k])) := by show _ = _; rw [HR.out]; exact rdBl_go _ _ _ hlt2 hp hn
          have hen1 : M.enAt (bs b) k ≤ b.size := by rw [bs_size]; exact hf.2.1
          have hen2 : k + 10 ≤ M.enAt (bs b) k := hf.2.2
          have HPC : Hid (∀ W, Calls Tryz.prog 45 #[.string b, .int .i64 k] W fun e w' => e = .returned (.tuple #[.agg #[.int .i64 (M.blAt (bs b) k).num, .bool (M.blAt (bs b) k).raw, .int .i64 (M.blAt (bs b) k).size, S (M.blAt (bs b) k).body], .int .i64 (M.enAt (bs b) k), .bool true]) ∧ G W w') := by
            intro W; exact v_ParseBlock_impl b k (by omega) (by omega) true HP.out W
          have HF2 : Hid (∀ p ∈ o ++ [M.blAt (bs b) k], p.form = true) := by
            intro p h
            rcases List.mem_append.1 h with h | h
            · exact HF.out p h
            · rw [List.mem_singleton] at h; rw [h]; exact hf.1
          have hpz : (M.blAt (bs b) k).size ≤ 64 := hfl.2.2.1
          have hpn : (M.blAt (bs b) k).num ≤ 39 := hfl.1
          generalize M.blAt (bs b) k = p at *
          generalize M.enAt (bs b) k = en at *
          obtain ⟨y, hy⟩ : ∃ y : ByteArray, S p.body = .string y := ⟨_, rfl⟩
          have HY := Lib.hid hy
          have hnn : ((p.num : Int) != (o.length : Int)) = false := by rw [hn]; simp
          have HN := Lib.hid hn
          have hol2 : o.length ≤ 39 := by omega
          clear hp hf hfl hn hy hlt2
          go_wp2_with (first | (go_at_call 45; refine (HPC.out _).mono ?_; rintro e w' ⟨rfl, h1⟩; obtain ⟨hch1, hfh1⟩ := gcell h1; have hs1 := h1.size; rw [HY.out]) | (at_builtin; refine app 31 31 Tryz.underlying31 block_info (by rfl) (by omega) rfl (.tmp 29) (.tmp 31) (by rfl) w.heap.size _ o.length (cBl o) (by rfl) (((own_g hown h1).alloc _).alloc _) _ 1 (cBl [p]) (by rfl) (src_bl2 _ _ p y HY.out (alloc_at _ _ _ (by simp))) (by omega) (by have := hG.size; simp <;> omega) ?_; intro v2 w2 hown2 hgw2 hatw2; have hGa := G.grown (a := w) (b := (w'.alloc _).alloc _) ((by repeat' (first | (with_reducible exact G.refl _) | (with_reducible assumption) | (with_reducible refine G.alloc ?_ _) | (with_reducible refine G.drew ?_) | (with_reducible refine G.drewN ?_ _) | (refine G.setCell ?_ (by first | (simp <;> done) | (simp <;> omega)) _) | (with_reducible refine G.trans ?_ (by with_reducible assumption))))) hgw2 (fun g h => by have := own_base hown h; omega)) | fail)
          go_roundw
          case rel => exact ⟨o ++ [p], en, rfl, hen1, by rw [cBl_append, List.length_append]; exact hown2, HR2.out, HF2.out, by simp; omega, hGa⟩
          case measure => simp [intOf]; omega
        · have HB : Hid (M.blocks (bs b) = none) := by show _ = _; unfold M.blocks; rw [HR.out, rdBl_no _ _ _ hlt2 (fun h => hn h.2)]
          have HPC : Hid (∀ W, Calls Tryz.prog 45 #[.string b, .int .i64 k] W fun e w' => e = .returned (.tuple #[.agg #[.int .i64 (M.blAt (bs b) k).num, .bool (M.blAt (bs b) k).raw, .int .i64 (M.blAt (bs b) k).size, S (M.blAt (bs b) k).body], .int .i64 (M.enAt (bs b) k), .bool true]) ∧ G W w') := by
            intro W; exact v_ParseBlock_impl b k (by omega) (by omega) true HP.out W
          generalize M.blAt (bs b) k = p at *
          generalize M.enAt (bs b) k = en at *
          obtain ⟨y, hy⟩ : ∃ y : ByteArray, S p.body = .string y := ⟨_, rfl⟩
          have HY := Lib.hid hy
          have hnn : ((p.num : Int) != (o.length : Int)) = true := by simp; omega
          clear hp hf hfl hn hy hlt2
          go_wp2_with (first | (go_at_call 45; refine (HPC.out _).mono ?_; rintro e w' ⟨rfl, h1⟩; obtain ⟨hch1, hfh1⟩ := gcell h1; have hs1 := h1.size; rw [HY.out]) | fail)
          go_ret2
          refine ⟨?_, (by repeat' (first | (with_reducible exact G.refl _) | (with_reducible assumption) | (with_reducible refine G.alloc ?_ _) | (with_reducible refine G.drew ?_) | (with_reducible refine G.drewN ?_ _) | (refine G.setCell ?_ (by first | (simp <;> done) | (simp <;> omega)) _) | (with_reducible refine G.trans ?_ (by with_reducible assumption))))⟩
          rw [HB.out]
          exact ⟨_, rfl⟩
      · have HP : Hid (decide (M.okP (bs b) k) = false) := decide_eq_false hp
        have HB : Hid (M.blocks (bs b) = none) := by show _ = _; unfold M.blocks; rw [HR.out, rdBl_no _ _ _ hlt2 (fun h => hp h.1)]
        have HPC : Hid (∀ W, Calls Tryz.prog 45 #[.string b, .int .i64 k] W fun e w' => e = .returned (.tuple #[.agg #[.int .i64 0, .bool false, .int .i64 0, .string ⟨#[]⟩], .int .i64 0, .bool false]) ∧ G W w') := by
          intro W; exact v_ParseBlock_impl b k (by omega) (by omega) false HP.out W
        clear hp hlt2
        go_wp2_with (first | (go_at_call 45; refine (HPC.out _).mono ?_; rintro e w' ⟨rfl, h1⟩; obtain ⟨hch1, hfh1⟩ := gcell h1; have hs1 := h1.size) | fail)
        go_ret2
        refine ⟨?_, (by repeat' (first | (with_reducible exact G.refl _) | (with_reducible assumption) | (with_reducible refine G.alloc ?_ _) | (with_reducible refine G.drew ?_) | (with_reducible refine G.drewN ?_ _) | (refine G.setCell ?_ (by first | (simp <;> done) | (simp <;> omega)) _) | (with_reducible refine G.trans ?_ (by with_reducible assumption))))⟩
        rw [HB.out]
        exact ⟨_, rfl⟩
    · have HE : Hid (M.rdBl (bs b) 0 [] = some o) := by show _ = _; rw [HR.out]; exact rdBl_end _ _ _ (by rw [← bs_size]; omega)
      have HZ : Hid (∀ p ∈ o, p.size ≤ 65535) := fun p hp => by have := (M.Bl.form_len (HF.out p hp)).2.2.1; omega
      have hsz : M.sizes o ≤ 2560 := by
        have := M.sizes_le o 64 (fun p hp => (M.Bl.form_len (HF.out p hp)).2.2.1)
        have h2 : 64 * o.length ≤ 64 * 40 := Nat.mul_le_mul_left _ hol
        omega
      have HOW := Lib.hid hown
      have hol2 : o.length ≤ 100 := by omega
      by_cases hz2 : M.sizes o ≤ 2000
      · have HB : Hid (M.blocks (bs b) = some o) := by show _ = _; unfold M.blocks; rw [HE.out]; simp only []; rw [if_pos hz2]
        go_wp2_with (first | (go_at_call 30; refine (v_sizeOf o hol2 HZ.out A0 c0 _ ((Rds.own HOW.out).g (by repeat' (first | (with_reducible exact G.refl _) | (with_reducible assumption) | (with_reducible refine G.alloc ?_ _) | (with_reducible refine G.drew ?_) | (with_reducible refine G.drewN ?_ _) | (refine G.setCell ?_ (by first | (simp <;> done) | (simp <;> omega)) _) | (with_reducible refine G.trans ?_ (by with_reducible assumption)))))).mono ?_; rintro e w' ⟨rfl, h5⟩; obtain ⟨hch5, hfh5⟩ := gcell h5; try (have hzh5 : w.heap.size < w'.heap.size := by have := h5.size; (try simp at this); omega); try (have hyh5 : w.heap.size + 1 < w'.heap.size := by have := h5.size; (try simp at this); omega)) | fail)
        go_ret2
        refine ⟨?_, (by repeat' (first | (with_reducible exact G.refl _) | (with_reducible assumption) | (with_reducible refine G.alloc ?_ _) | (with_reducible refine G.drew ?_) | (with_reducible refine G.drewN ?_ _) | (refine G.setCell ?_ (by first | (simp <;> done) | (simp <;> omega)) _) | (with_reducible refine G.trans ?_ (by with_reducible assumption))))⟩
        rw [HB.out]
        exact ⟨A0, c0, rfl, own_g HOW.out (by repeat' (first | (with_reducible exact G.refl _) | (with_reducible assumption) | (with_reducible refine G.alloc ?_ _) | (with_reducible refine G.drew ?_) | (with_reducible refine G.drewN ?_ _) | (refine G.setCell ?_ (by first | (simp <;> done) | (simp <;> omega)) _) | (with_reducible refine G.trans ?_ (by with_reducible assumption))))⟩
      · have HB : Hid (M.blocks (bs b) = none) := by show _ = _; unfold M.blocks; rw [HE.out]; simp only []; rw [if_neg hz2]
        go_wp2_with (first | (go_at_call 30; refine (v_sizeOf o hol2 HZ.out A0 c0 _ ((Rds.own HOW.out).g (by repeat' (first | (with_reducible exact G.refl _) | (with_reducible assumption) | (with_reducible refine G.alloc ?_ _) | (with_reducible refine G.drew ?_) | (with_reducible refine G.drewN ?_ _) | (refine G.setCell ?_ (by first | (simp <;> done) | (simp <;> omega)) _) | (with_reducible refine G.trans ?_ (by with_reducible assumption)))))).mono ?_; rintro e w' ⟨rfl, h5⟩; obtain ⟨hch5, hfh5⟩ := gcell h5; try (have hzh5 : w.heap.size < w'.heap.size := by have := h5.size; (try simp at this); omega); try (have hyh5 : w.heap.size + 1 < w'.heap.size := by have := h5.size; (try simp at this); omega)) | fail)
        go_ret2
        refine ⟨?_, (by repeat' (first | (with_reducible exact G.refl _) | (with_reducible assumption) | (with_reducible refine G.alloc ?_ _) | (with_reducible refine G.drew ?_) | (with_reducible refine G.drewN ?_ _) | (refine G.setCell ?_ (by first | (simp <;> done) | (simp <;> omega)) _) | (with_reducible refine G.trans ?_ (by with_reducible assumption))))⟩
        rw [HB.out]
        exact ⟨_, rfl⟩
end
end Go.Proofs.YtlaijbkonapdbaaGreat

namespace Go.Proofs.YtlaijbkonapdbaaGreat
open Go.RowKit
attribute [local go_sem] grow_cell grow_frozen conv_one conv_two
abbrev knZ : Value := .agg #[.int .i64 0, .int .i64 0, .int .i64 0, .slice none 0 0, .int .i64 0, .int .i64 0]
theorem c_SettingValid_no (o l m : Int) (ho : M.okS o l m = false) (w : World) : Calls Tryz.prog 61 #[.agg #[.int .i64 o, .int .i64 l, .int .i64 m]] w fun e w' => e = .returned (.bool false) ∧ G w w' :=
  (c_SettingValid_impl o l m w).mono fun _ _ ⟨he, hg⟩ => ⟨by rw [he, ho], hg⟩
theorem c_Start_bad (o l m : Int) (ho : M.okS o l m = false) (w : World) : Calls Tryz.prog 43 #[.agg #[.int .i64 o, .int .i64 l, .int .i64 m]] w fun e w' => e = .returned (.tuple #[knZ, .bool false]) ∧ G w w' := by
  have HO := Lib.hid ho
  clear ho
  go_enter Tryz.func43, Tryz.ntmps43
  go_wp2_with (first | (go_at_call 61; refine (c_SettingValid_no o l m HO.out _).mono ?_; rintro e w' ⟨rfl, h1⟩; obtain ⟨hch1, hfh1⟩ := gcell h1; have hb := row6 ((h1.heap (k := w.heap.size + 1) (by simp)).trans (alloc_at _ _ _ (by simp))); obtain ⟨k9, kf, k0, k1, k2, k3, k4, k5⟩ := hb) | fail)
  refine bodyPost_ret (results_cell_tmp1 rfl _ _ (w.heap.size + 1) [.int .i64 0, .int .i64 0, .int .i64 0, .slice none 0 0, .int .i64 0, .int .i64 0] _ rfl (cells6 (by go_cell) (by go_cell) (by go_cell) (by go_cell) (by go_cell) (by go_cell)) Tryz.underlying40 rfl (by kernel_rfl)) rfl ?_
  exact ⟨rfl, (by repeat' (first | (with_reducible exact G.refl _) | (with_reducible assumption) | (with_reducible refine G.alloc ?_ _) | (with_reducible refine G.drew ?_) | (with_reducible refine G.drewN ?_ _) | (refine G.setCell ?_ (by first | (simp <;> done) | (simp <;> omega)) _) | (with_reducible refine G.trans ?_ (by with_reducible assumption))))⟩
set_option maxRecDepth 4000 in
set_option maxHeartbeats 2000000 in
theorem c_StartWith_bad (o l m : Int) (ho : M.okS o l m = false) (b : ByteArray) (w : World) : Calls Tryz.prog 26 #[.agg #[.int .i64 o, .int .i64 l, .int .i64 m], .string b] w fun e w' => e = .returned (.tuple #[knZ, .bool false]) ∧ G w w' := by
  have HO := Lib.hid ho
  clear ho
  go_enter Tryz.func26, Tryz.ntmps26
  go_upto_region 2 with (first | (go_at_call 43; refine (c_Start_bad o l m HO.out _).mono ?_; rintro e w' ⟨rfl, h1⟩; obtain ⟨hch1, hfh1⟩ := gcell h1; have hb := ((h1.heap (k := w.heap.size + 1) (by simp)).trans (alloc_at _ _ _ (by simp)))) | fail)
  refine wp_gen (fun W => G w W ∧ W.heap[w.heap.size + 1]? = some (.cells #[.int .i64 0, .int .i64 0, .int .i64 0, .slice none 0 0, .int .i64 0, .int .i64 0] 40 (0, 0))) ⟨(by repeat' (first | (with_reducible exact G.refl _) | (with_reducible assumption) | (with_reducible refine G.alloc ?_ _) | (with_reducible refine G.drew ?_) | (with_reducible refine G.drewN ?_ _) | (refine G.setCell ?_ (by first | (simp <;> done) | (simp <;> omega)) _) | (with_reducible refine G.trans ?_ (by with_reducible assumption)))), (((G.refl w').alloc _).heap (lt_of_block hb)).trans hb⟩ ?_
  rintro W2 ⟨hG2, hb2⟩
  clear hch1 hfh1 h1 hb
  obtain ⟨k9, kf, k0, k1, k2, k3, k4, k5⟩ := row6 hb2
  go_wp2
  refine bodyPost_ret (results_cell_tmp1 rfl _ _ (w.heap.size + 1) [.int .i64 0, .int .i64 0, .int .i64 0, .slice none 0 0, .int .i64 0, .int .i64 0] _ rfl (cells6 (by go_cell) (by go_cell) (by go_cell) (by go_cell) (by go_cell) (by go_cell)) Tryz.underlying40 rfl (by kernel_rfl)) rfl ?_
  exact ⟨rfl, (by repeat' (first | (with_reducible exact G.refl _) | (with_reducible assumption) | (with_reducible refine G.alloc ?_ _) | (with_reducible refine G.drew ?_) | (with_reducible refine G.drewN ?_ _) | (refine G.setCell ?_ (by first | (simp <;> done) | (simp <;> omega)) _) | (with_reducible refine G.trans ?_ (by with_reducible assumption))))⟩
section
variable (k : M.Kn) (hk : k.V) (A : Option Addr) (c : Nat) (w : World) (hr : Rds w 2 A k.ps.length (cP k.ps))
include hk hr
set_option maxHeartbeats 1000000 in
theorem v_LearnKnown_no (d : M.Bytes) (b : ByteArray) (hb : bs b = d) (hz : b.size ≤ 100000000) (hd : decide (b.size ≤ 2000 ∧ M.Kn.fits k.s.c d) = false) :
    Calls Tryz.prog 44 #[knV k A c, .string b] w fun e w' => e = .returned (.tuple #[knZ, .bool false]) ∧ G w w' := by
  have HB := Lib.hid hb
  have HR := Lib.hid hr
  have HD := Lib.hid hd
  clear hb hr hd
  go_enter Tryz.func44, Tryz.ntmps44
  go_wp2_with (first | (go_at_call 62; refine (v_KnownValid_impl k hk A c _ (HR.out.g (by repeat' (first | (with_reducible exact G.refl _) | (with_reducible assumption) | (with_reducible refine G.alloc ?_ _) | (with_reducible refine G.drew ?_) | (with_reducible refine G.drewN ?_ _) | (refine G.setCell ?_ (by first | (simp <;> done) | (simp <;> omega)) _) | (with_reducible refine G.trans ?_ (by with_reducible assumption)))))).mono ?_; rintro e w' ⟨rfl, h1⟩; obtain ⟨hch1, hfh1⟩ := gcell h1; try (have hzh1 : w.heap.size < w'.heap.size := by have := h1.size; (try simp at this); omega); try (have hyh1 : w.heap.size + 1 < w'.heap.size := by have := h1.size; (try simp at this); omega)) | (go_at_call 63; refine (v_DataFits_impl k.s hk.s d b HB.out hz false _ HD.out).mono ?_; rintro e w' ⟨rfl, h2⟩; obtain ⟨hch2, hfh2⟩ := gcell h2; have hb := row6 (((h1.trans h2).heap (k := w.heap.size + 1) (by simp)).trans (alloc_at _ _ _ (by simp))); obtain ⟨k9, kf, k0, k1, k2, k3, k4, k5⟩ := hb) | fail)
  refine bodyPost_ret (results_cell_tmp1 rfl _ _ (w.heap.size + 1) [.int .i64 0, .int .i64 0, .int .i64 0, .slice none 0 0, .int .i64 0, .int .i64 0] _ rfl (cells6 (by go_cell) (by go_cell) (by go_cell) (by go_cell) (by go_cell) (by go_cell)) Tryz.underlying40 rfl (by kernel_rfl)) rfl ?_
  exact ⟨rfl, (by repeat' (first | (with_reducible exact G.refl _) | (with_reducible assumption) | (with_reducible refine G.alloc ?_ _) | (with_reducible refine G.drew ?_) | (with_reducible refine G.drewN ?_ _) | (refine G.setCell ?_ (by first | (simp <;> done) | (simp <;> omega)) _) | (with_reducible refine G.trans ?_ (by with_reducible assumption))))⟩
end
section
variable (s : M.St) (hs : s.Ok) (w : World)
include hs
set_option maxHeartbeats 1000000 in
theorem v_StartWith_no (d : M.Bytes) (b : ByteArray) (hb : bs b = d) (hz : b.size ≤ 100000000) (hd : decide (b.size ≤ 2000 ∧ M.Kn.fits s.c d) = false) :
    Calls Tryz.prog 26 #[stV s, .string b] w fun e w' => e = .returned (.tuple #[knZ, .bool false]) ∧ G w w' := by
  have HB := Lib.hid hb
  have HD := Lib.hid hd
  clear hb hd
  go_enter Tryz.func26, Tryz.ntmps26
  go_wp2_with (first | (go_at_call 43; refine (v_Start_impl s hs _).mono ?_; rintro e w' ⟨rfl, h1⟩; obtain ⟨hch1, hfh1⟩ := gcell h1; try (have hzh1 : w.heap.size < w'.heap.size := by have := h1.size; (try simp at this); omega); try (have hyh1 : w.heap.size + 1 < w'.heap.size := by have := h1.size; (try simp at this); omega)) | (go_at_call 44; refine (v_LearnKnown_no (M.start s) (M.start_V hs) none 0 _ (Rds.none _) d b HB.out hz HD.out).mono ?_; rintro e w' ⟨rfl, h3⟩; obtain ⟨hch3, hfh3⟩ := gcell h3; skip) | fail)
  refine bodyPost_ret (results_cell_tmp1 rfl _ _ (w.heap.size + 1) [.int .i64 0, .int .i64 0, .int .i64 0, .slice none 0 0, .int .i64 0, .int .i64 0] _ rfl (cells6 (by go_cell) (by go_cell) (by go_cell) (by go_cell) (by go_cell) (by go_cell)) Tryz.underlying40 rfl (by kernel_rfl)) rfl ?_
  exact ⟨rfl, (by repeat' (first | (with_reducible exact G.refl _) | (with_reducible assumption) | (with_reducible refine G.alloc ?_ _) | (with_reducible refine G.drew ?_) | (with_reducible refine G.drewN ?_ _) | (refine G.setCell ?_ (by first | (simp <;> done) | (simp <;> omega)) _) | (with_reducible refine G.trans ?_ (by with_reducible assumption))))⟩
end
end Go.Proofs.YtlaijbkonapdbaaGreat

namespace Go.Proofs.YtlaijbkonapdbaaGreat
open Go.RowKit
attribute [local go_sem] grow_cell grow_frozen conv_one conv_two
abbrev zero6 : Obj := .cells #[.int .i64 0, .int .i64 0, .int .i64 0, .slice none 0 0, .int .i64 0, .int .i64 0] 40 (0, 0)
/-- what startEdit gives where it fails -/
abbrev edZ : Ending := .returned (.tuple #[knZ, .slice none 0 0, .bool false])
theorem c_startEdit_bad (o l m : Int) (ho : M.okS o l m = false) (b st : ByteArray) (w : World) : Calls Tryz.prog 15 #[.agg #[.int .i64 o, .int .i64 l, .int .i64 m], .string b, .string st] w fun e w' => e = edZ ∧ G w w' := by
  have HO := Lib.hid ho
  clear ho
  go_enter Tryz.func15, Tryz.ntmps15
  go_upto_region 2 with (first | (go_at_call 26; refine (c_StartWith_bad o l m HO.out b _).mono ?_; rintro e w' ⟨rfl, h1⟩; obtain ⟨hch1, hfh1⟩ := gcell h1; have hb := ((h1.heap (k := w.heap.size + 1) (by simp)).trans (alloc_at _ _ _ (by simp)))) | fail)
  refine wp_gen (fun W => G w W ∧ W.heap[w.heap.size + 1]? = some zero6) ⟨(by repeat' (first | (with_reducible exact G.refl _) | (with_reducible assumption) | (with_reducible refine G.alloc ?_ _) | (with_reducible refine G.drew ?_) | (with_reducible refine G.drewN ?_ _) | (refine G.setCell ?_ (by first | (simp <;> done) | (simp <;> omega)) _) | (with_reducible refine G.trans ?_ (by with_reducible assumption)))), (((G.refl w').alloc _).heap (lt_of_block hb)).trans hb⟩ ?_
  rintro W2 ⟨hG2, hb2⟩
  clear hch1 hfh1 h1 hb
  obtain ⟨k9, kf, k0, k1, k2, k3, k4, k5⟩ := row6 hb2
  go_wp2
  refine bodyPost_ret (results_cell_tmp2 rfl _ _ (w.heap.size + 1) [.int .i64 0, .int .i64 0, .int .i64 0, .slice none 0 0, .int .i64 0, .int .i64 0] _ rfl (cells6 (by go_cell) (by go_cell) (by go_cell) (by go_cell) (by go_cell) (by go_cell)) Tryz.underlying40 rfl (by kernel_rfl)) rfl ?_
  exact ⟨rfl, (by repeat' (first | (with_reducible exact G.refl _) | (with_reducible assumption) | (with_reducible refine G.alloc ?_ _) | (with_reducible refine G.drew ?_) | (with_reducible refine G.drewN ?_ _) | (refine G.setCell ?_ (by first | (simp <;> done) | (simp <;> omega)) _) | (with_reducible refine G.trans ?_ (by with_reducible assumption))))⟩
section
variable (s : M.St) (hs : s.Ok) (d : M.Bytes) (b : ByteArray) (hb : bs b = d) (hz : b.size ≤ 10000000) (st : ByteArray) (hst : st.size ≤ 10000000) (w : World)
include hs hb hz hst
set_option maxRecDepth 4000 in
set_option maxHeartbeats 2000000 in
theorem v_startEdit_no (hno : ¬ (b.size ≤ 2000 ∧ M.Kn.fits s.c d) ∨ M.blocks (bs st) = none) : Calls Tryz.prog 15 #[stV s, .string b, .string st] w fun e w' => e = edZ ∧ G w w' := by
  have HB := Lib.hid hb
  clear hb
  by_cases hd : b.size ≤ 2000 ∧ M.Kn.fits s.c d
  · have hbl : M.blocks (bs st) = none := by
      rcases hno with h | h
      · exact absurd hd h
      · exact h
    have HBL := Lib.hid hbl
    have HD := Lib.hid hd
    obtain ⟨k2, hk2⟩ : ∃ k2, M.Kn.learnK (M.start s) d = k2 := ⟨_, rfl⟩
    have HK := Lib.hid hk2
    clear hno hbl hd hk2
    go_enter Tryz.func15, Tryz.ntmps15
    go_upto_region 2 with (first | (go_at_call 26; refine (v_StartWith_impl s hs _ d b HB.out (by omega) HD.out).mono ?_; rintro e w' ⟨⟨A1, c1, rfl, hR1⟩, h1⟩; rw [HK.out] at hR1 ⊢; have hb := ((h1.heap (k := w.heap.size + 1) (by simp)).trans (alloc_at _ _ _ (by simp)))) | fail)
    refine wp_gen (fun W => G w W ∧ W.heap[w.heap.size + 1]? = some zero6) ⟨(by repeat' (first | (with_reducible exact G.refl _) | (with_reducible assumption) | (with_reducible refine G.alloc ?_ _) | (with_reducible refine G.drew ?_) | (with_reducible refine G.drewN ?_ _) | (refine G.setCell ?_ (by first | (simp <;> done) | (simp <;> omega)) _) | (with_reducible refine G.trans ?_ (by with_reducible assumption)))), (((G.refl w').alloc _).heap (lt_of_block hb)).trans hb⟩ ?_
    rintro W2 ⟨hG2, hb2⟩
    clear h1 hb hR1
    go_upto_region 5 with (first | (go_at_call 27; refine (v_ContainerBlocks st hst _).mono ?_; rintro e w' ⟨hgb, h2⟩; rw [HBL.out] at hgb; obtain ⟨v2, rfl⟩ := hgb) | fail)
    refine wp_gen (fun W => G w W ∧ W.heap[w.heap.size + 1]? = some zero6) ⟨(by repeat' (first | (with_reducible exact G.refl _) | (with_reducible assumption) | (with_reducible refine G.alloc ?_ _) | (with_reducible refine G.drew ?_) | (with_reducible refine G.drewN ?_ _) | (refine G.setCell ?_ (by first | (simp <;> done) | (simp <;> omega)) _) | (with_reducible refine G.trans ?_ (by with_reducible assumption)))), (h2.heap (lt_of_block hb2)).trans hb2⟩ ?_
    rintro W3 ⟨hG3, hb3⟩
    clear hb2 hG2 h2
    obtain ⟨k9, kf, k0, k1, k2, k3, k4, k5⟩ := row6 hb3
    go_wp2
    refine bodyPost_ret (results_cell_tmp2 rfl _ _ (w.heap.size + 1) [.int .i64 0, .int .i64 0, .int .i64 0, .slice none 0 0, .int .i64 0, .int .i64 0] _ rfl (cells6 (by go_cell) (by go_cell) (by go_cell) (by go_cell) (by go_cell) (by go_cell)) Tryz.underlying40 rfl (by kernel_rfl)) rfl ?_
    exact ⟨rfl, (by repeat' (first | (with_reducible exact G.refl _) | (with_reducible assumption) | (with_reducible refine G.alloc ?_ _) | (with_reducible refine G.drew ?_) | (with_reducible refine G.drewN ?_ _) | (refine G.setCell ?_ (by first | (simp <;> done) | (simp <;> omega)) _) | (with_reducible refine G.trans ?_ (by with_reducible assumption))))⟩
  · have HD : Hid (decide (b.size ≤ 2000 ∧ M.Kn.fits s.c d) = false) := decide_eq_false hd
    clear hno hd
    go_enter Tryz.func15, Tryz.ntmps15
    go_upto_region 2 with (first | (go_at_call 26; refine (v_StartWith_no s hs _ d b HB.out (by omega) HD.out).mono ?_; rintro e w' ⟨rfl, h1⟩; obtain ⟨hch1, hfh1⟩ := gcell h1; have hb := ((h1.heap (k := w.heap.size + 1) (by simp)).trans (alloc_at _ _ _ (by simp)))) | fail)
    refine wp_gen (fun W => G w W ∧ W.heap[w.heap.size + 1]? = some zero6) ⟨(by repeat' (first | (with_reducible exact G.refl _) | (with_reducible assumption) | (with_reducible refine G.alloc ?_ _) | (with_reducible refine G.drew ?_) | (with_reducible refine G.drewN ?_ _) | (refine G.setCell ?_ (by first | (simp <;> done) | (simp <;> omega)) _) | (with_reducible refine G.trans ?_ (by with_reducible assumption)))), (((G.refl w').alloc _).heap (lt_of_block hb)).trans hb⟩ ?_
    rintro W2 ⟨hG2, hb2⟩
    clear hch1 hfh1 h1 hb
    obtain ⟨k9, kf, k0, k1, k2, k3, k4, k5⟩ := row6 hb2
    go_wp2
    refine bodyPost_ret (results_cell_tmp2 rfl _ _ (w.heap.size + 1) [.int .i64 0, .int .i64 0, .int .i64 0, .slice none 0 0, .int .i64 0, .int .i64 0] _ rfl (cells6 (by go_cell) (by go_cell) (by go_cell) (by go_cell) (by go_cell) (by go_cell)) Tryz.underlying40 rfl (by kernel_rfl)) rfl ?_
    exact ⟨rfl, (by repeat' (first | (with_reducible exact G.refl _) | (with_reducible assumption) | (with_reducible refine G.alloc ?_ _) | (with_reducible refine G.drew ?_) | (with_reducible refine G.drewN ?_ _) | (refine G.setCell ?_ (by first | (simp <;> done) | (simp <;> omega)) _) | (with_reducible refine G.trans ?_ (by with_reducible assumption))))⟩
set_option maxRecDepth 4000 in
set_option maxHeartbeats 2000000 in
theorem v_startEdit (hd : b.size ≤ 2000 ∧ M.Kn.fits s.c d) (bl : List M.Bl) (hbl : M.blocks (bs st) = some bl) : Calls Tryz.prog 15 #[stV s, .string b, .string st] w fun e w' =>
    (∃ A c A' c', e = .returned (.tuple #[knV (M.Kn.learnK (M.start s) d) A c, .slice A' bl.length c', .bool true]) ∧ w'.ownsRow w.heap.size 98 2 (.slice A (M.Kn.learnK (M.start s) d).ps.length c) (M.Kn.learnK (M.start s) d).ps.length (cP (M.Kn.learnK (M.start s) d).ps) ∧ w'.ownsRow w.heap.size 46 4 (.slice A' bl.length c') bl.length (cBl bl)) ∧ G w w' := by
  have HB := Lib.hid hb
  have HBL := Lib.hid hbl
  have HD := Lib.hid hd
  obtain ⟨k, hk⟩ : ∃ k, M.Kn.learnK (M.start s) d = k := ⟨_, rfl⟩
  rw [hk]
  have HK := Lib.hid hk
  clear hb hbl hd hk
  go_enter Tryz.func15, Tryz.ntmps15
  go_upto_region 2 with (first | (go_at_call 26; refine (v_StartWith_impl s hs _ d b HB.out (by omega) HD.out).mono ?_; rintro e w' ⟨⟨A1, c1, rfl, hR1⟩, h1⟩; rw [HK.out] at hR1 ⊢; have hb := ((h1.heap (k := w.heap.size + 1) (by simp)).trans (alloc_at _ _ _ (by simp)))) | fail)
  rename World => w1
  have hs1 := h1.size
  simp only [World.size_alloc] at hs1
  obtain ⟨u, hu⟩ : ∃ u, u = w1.heap.size := ⟨_, rfl⟩
  have hul : w.heap.size + 2 ≤ u := by omega
  refine wp_gen (fun W => G w W ∧ W.heap[w.heap.size + 1]? = some zero6 ∧ W.heap[u]? = some (.cells #[.int .i64 k.s.ord, .int .i64 k.s.lit, .int .i64 k.s.most, .slice A1 k.ps.length c1, .int .i64 k.base, .int .i64 k.last] 40 (0, 0)) ∧ W.ownsRow (w.heap.size + 2) 98 2 (.slice A1 k.ps.length c1) k.ps.length (cP k.ps)) ⟨(by repeat' (first | (with_reducible exact G.refl _) | (with_reducible assumption) | (with_reducible refine G.alloc ?_ _) | (with_reducible refine G.drew ?_) | (with_reducible refine G.drewN ?_ _) | (refine G.setCell ?_ (by first | (simp <;> done) | (simp <;> omega)) _) | (with_reducible refine G.trans ?_ (by with_reducible assumption)))), (((G.refl w1).alloc _).heap (lt_of_block hb)).trans hb, alloc_at _ _ _ hu, own_g (own_mono hR1 (by simp)) ((G.refl w1).alloc _)⟩ ?_
  rintro W2 ⟨hG2, hb2, hu2, hR2⟩
  rw [← hu]
  clear h1 hb hR1 hs1 hu
  go_upto_region 5 with (first | (go_at_call 27; refine (v_ContainerBlocks st hst _).mono ?_; rintro e w' ⟨hgb, h2⟩; rw [HBL.out] at hgb; obtain ⟨A2, c2, rfl, hR3⟩ := hgb) | fail)
  refine wp_gen (fun W => G w W ∧ W.heap[w.heap.size + 1]? = some zero6 ∧ W.heap[u]? = some (.cells #[.int .i64 k.s.ord, .int .i64 k.s.lit, .int .i64 k.s.most, .slice A1 k.ps.length c1, .int .i64 k.base, .int .i64 k.last] 40 (0, 0)) ∧ W.ownsRow (w.heap.size + 2) 98 2 (.slice A1 k.ps.length c1) k.ps.length (cP k.ps) ∧ W.ownsRow (w.heap.size + 2) 46 4 (.slice A2 bl.length c2) bl.length (cBl bl)) ⟨(by repeat' (first | (with_reducible exact G.refl _) | (with_reducible assumption) | (with_reducible refine G.alloc ?_ _) | (with_reducible refine G.drew ?_) | (with_reducible refine G.drewN ?_ _) | (refine G.setCell ?_ (by first | (simp <;> done) | (simp <;> omega)) _) | (with_reducible refine G.trans ?_ (by with_reducible assumption)))), (h2.heap (lt_of_block hb2)).trans hb2, (h2.heap (lt_of_block hu2)).trans hu2, own_g hR2 h2, own_mono hR3 (by have := lt_of_block hu2; omega)⟩ ?_
  rintro W3 ⟨hG3, hb3, hu3, hR4, hR5⟩
  clear hb2 hu2 hG2 hR2 hR3 h2
  obtain ⟨k9, kf, k0, k1, k2, k3, k4, k5⟩ := row6 hb3
  obtain ⟨u9, uf, u0, u1, u2, u3, u4, u5⟩ := row6 hu3
  have hne : u ≠ w.heap.size + 1 := by omega
  have hHR4 := Lib.hid hR4
  have hHR5 := Lib.hid hR5
  clear hb3 hu3 hR4 hR5
  go_wp2
  refine bodyPost_ret (results_cell_tmp2 rfl _ _ (w.heap.size + 1) [.int .i64 k.s.ord, .int .i64 k.s.lit, .int .i64 k.s.most, .slice A1 k.ps.length c1, .int .i64 k.base, .int .i64 k.last] _ rfl (cells6 (by go_cell) (by go_cell) (by go_cell) (by go_cell) (by go_cell) (by go_cell)) Tryz.underlying40 rfl (by kernel_rfl)) rfl ?_
  refine ⟨⟨A1, c1, A2, c2, rfl, ?_, ?_⟩, (by repeat' (first | (with_reducible exact G.refl _) | (with_reducible assumption) | (with_reducible refine G.alloc ?_ _) | (with_reducible refine G.drew ?_) | (with_reducible refine G.drewN ?_ _) | (refine G.setCell ?_ (by first | (simp <;> done) | (simp <;> omega)) _) | (with_reducible refine G.trans ?_ (by with_reducible assumption))))⟩
  · exact own_mono (own_set6 hHR4.out (fun e => by have := own_base hHR4.out e; omega)) (by omega)
  · exact own_mono (own_set6 hHR5.out (fun e => by have := own_base hHR5.out e; omega)) (by omega)
end
end Go.Proofs.YtlaijbkonapdbaaGreat

namespace Go.Proofs.YtlaijbkonapdbaaGreat
open Go.RowKit
attribute [local go_sem] grow_cell grow_frozen conv_one conv_two
theorem c_DataFits_bad (o l m : Int) (ho : M.okS o l m = false) (b : ByteArray) (w : World) : Calls Tryz.prog 41 #[.agg #[.int .i64 o, .int .i64 l, .int .i64 m], .string b] w fun e w' => e = .returned (.bool false) ∧ G w w' := by
  have HO := Lib.hid ho
  clear ho
  go_enter Tryz.func41, Tryz.ntmps41
  go_wp2_with (first | (go_at_call 57; refine (c_SettingValid_spec _ _ _ _).mono ?_; rintro e w' ⟨rfl, h1⟩; rw [HO.out]; obtain ⟨hch1, hfh1⟩ := gcell h1) | fail)
  go_ret
  exact ⟨rfl, (by repeat' (first | (with_reducible exact G.refl _) | (with_reducible assumption) | (with_reducible refine G.alloc ?_ _) | (with_reducible refine G.drew ?_) | (with_reducible refine G.drewN ?_ _) | (refine G.setCell ?_ (by first | (simp <;> done) | (simp <;> omega)) _) | (with_reducible refine G.trans ?_ (by with_reducible assumption))))⟩
theorem c_l5Ready_bad (o l m : Int) (ho : M.okS o l m = false) (b : ByteArray) (w : World) : Calls Tryz.prog 21 #[.agg #[.int .i64 o, .int .i64 l, .int .i64 m], .string b] w fun e w' => e = .returned (.bool false) ∧ G w w' := by
  have HO := Lib.hid ho
  clear ho
  go_enter Tryz.func21, Tryz.ntmps21
  go_wp2_with (first | (go_at_call 41; refine (c_DataFits_bad o l m HO.out b _).mono ?_; rintro e w' ⟨rfl, h2⟩; obtain ⟨hch2, hfh2⟩ := gcell h2; try (have hzh2 : w.heap.size < w'.heap.size := by have := h2.size; (try simp at this); omega); try (have hyh2 : w.heap.size + 1 < w'.heap.size := by have := h2.size; (try simp at this); omega)) | fail)
  go_ret
  exact ⟨rfl, (by repeat' (first | (with_reducible exact G.refl _) | (with_reducible assumption) | (with_reducible refine G.alloc ?_ _) | (with_reducible refine G.drew ?_) | (with_reducible refine G.drewN ?_ _) | (refine G.setCell ?_ (by first | (simp <;> done) | (simp <;> omega)) _) | (with_reducible refine G.trans ?_ (by with_reducible assumption))))⟩
theorem c_l6Room_bad (o l m : Int) (ho : M.okS o l m = false) (b : ByteArray) (n : Int) (w : World) : Calls Tryz.prog 11 #[.agg #[.int .i64 o, .int .i64 l, .int .i64 m], .string b, .int .i64 n] w fun e w' => e = .returned (.bool false) ∧ G w w' := by
  have HO := Lib.hid ho
  clear ho
  go_enter Tryz.func11, Tryz.ntmps11
  go_wp2_with (first | (go_at_call 21; refine (c_l5Ready_bad o l m HO.out b _).mono ?_; rintro e w' ⟨rfl, h2⟩; obtain ⟨hch2, hfh2⟩ := gcell h2; try (have hzh2 : w.heap.size < w'.heap.size := by have := h2.size; (try simp at this); omega); try (have hyh2 : w.heap.size + 1 < w'.heap.size := by have := h2.size; (try simp at this); omega)) | fail)
  go_ret
  exact ⟨rfl, (by repeat' (first | (with_reducible exact G.refl _) | (with_reducible assumption) | (with_reducible refine G.alloc ?_ _) | (with_reducible refine G.drew ?_) | (with_reducible refine G.drewN ?_ _) | (refine G.setCell ?_ (by first | (simp <;> done) | (simp <;> omega)) _) | (with_reducible refine G.trans ?_ (by with_reducible assumption))))⟩

/-- what AppendData gives -/
def appD (s : M.St) (d st t : M.Bytes) (n : Int) : Option M.Bytes :=
  match M.blocks st with
  | none => none
  | some bl =>
    if ((d.length ≤ 2000 ∧ M.Kn.fits s.c d) ∧ 1 ≤ n ∧ n ≤ 64) ∧ ¬ (t.length > 2000 ∨ (t.length : Int) > n * 40) then
      if (bl ++ M.split (M.Kn.learnK (M.start s) d) n.toNat t).length ≤ 40 ∧ M.sizes (bl ++ M.split (M.Kn.learnK (M.start s) d) n.toNat t) ≤ 2000 then some (M.texts 0 (bl ++ M.split (M.Kn.learnK (M.start s) d) n.toNat t)) else none
    else none
def resD (r : Option M.Bytes) : Value := match r with | some x => .tuple #[S x, .bool true] | none => .tuple #[.string ⟨#[]⟩, .bool false]
section
variable (s : M.St) (hs : s.Ok) (d : M.Bytes) (b : ByteArray) (hb : bs b = d) (hz : b.size ≤ 10000000) (st : ByteArray) (hst : st.size ≤ 10000000) (y : ByteArray) (hy : y.size ≤ 10000000) (n : Int) (w : World)
include hs hb hz hst hy
set_option maxRecDepth 4000 in
set_option maxHeartbeats 4000000 in
theorem v_AppendData_spec : Calls Tryz.prog 5 #[stV s, .string b, .string st, .string y, .int .i64 n] w fun e w' => e = .returned (resD (appD s d (bs st) (bs y) n)) ∧ G w w' := by
  have HB := Lib.hid hb
  have hd : b.size = d.length := by rw [bs_size, hb]
  have HD := Lib.hid hd
  clear hb
  cases hbl : M.blocks (bs st) with
  | none =>
    have HR : Hid (appD s d (bs st) (bs y) n = none) := by show _ = _; unfold appD; rw [hbl]
    have HBL := Lib.hid hbl
    clear hbl hd
    go_enter Tryz.func5, Tryz.ntmps5
    go_wp2_with (first | (go_at_call 10; refine (v_l5Blocks st hst _).mono ?_; rintro e w' ⟨hgb, h1⟩; rw [HBL.out] at hgb; obtain ⟨v1, rfl⟩ := hgb; obtain ⟨hch1, hfh1⟩ := gcell h1) | fail)
    go_ret2
    refine ⟨?_, (by repeat' (first | (with_reducible exact G.refl _) | (with_reducible assumption) | (with_reducible refine G.alloc ?_ _) | (with_reducible refine G.drew ?_) | (with_reducible refine G.drewN ?_ _) | (refine G.setCell ?_ (by first | (simp <;> done) | (simp <;> omega)) _) | (with_reducible refine G.trans ?_ (by with_reducible assumption))))⟩
    rw [HR.out]; rfl
  | some bl =>
    have HBL := Lib.hid hbl
    obtain ⟨hf1, hf2, hf3⟩ := M.blocks_form hbl
    by_cases hroom : (b.size ≤ 2000 ∧ M.Kn.fits s.c d) ∧ 1 ≤ n ∧ n ≤ 64
    · have HR1 : Hid (decide ((b.size ≤ 2000 ∧ M.Kn.fits s.c d) ∧ 1 ≤ n ∧ n ≤ 64) = true) := decide_eq_true hroom
      have HF := Lib.hid hroom
      obtain ⟨nn, hnn⟩ : ∃ nn : Nat, n = nn := ⟨n.toNat, by omega⟩
      subst hnn
      have hn1 : 1 ≤ nn := by omega
      have hn2 : nn ≤ 64 := by omega
      by_cases hmany : y.size > 2000 ∨ y.size > nn * 40
      · have HM : Hid (decide (y.size > 2000 ∨ y.size > nn * 40) = true) := decide_eq_true hmany
        have HR : Hid (appD s d (bs st) (bs y) nn = none) := by
          show _ = _; unfold appD; rw [hbl]; simp only []; rw [if_neg]; rw [← bs_size]; intro h; apply h.2; omega
        clear hbl hd hroom hmany hf1
        go_enter Tryz.func5, Tryz.ntmps5
        go_wp2_with (first | (go_at_call 10; refine (v_l5Blocks st hst _).mono ?_; rintro e w' ⟨hgb, h1⟩; rw [HBL.out] at hgb; obtain ⟨A1, c1, rfl, hown1⟩ := hgb; obtain ⟨hch1, hfh1⟩ := gcell h1; have hz1 : w.heap.size < w'.heap.size := (by have := h1.size; simp at this; omega)) | (go_at_call 11; refine (v_l6Room s hs d b HB.out (by omega) _ nn true HR1.out).mono ?_; rintro e w' ⟨rfl, h2⟩; obtain ⟨hch2, hfh2⟩ := gcell h2; try (have hzh2 : w.heap.size < w'.heap.size := by have := h2.size; (try simp at this); omega); try (have hyh2 : w.heap.size + 1 < w'.heap.size := by have := h2.size; (try simp at this); omega)) | (go_at_call 12; refine (v_l6Many y (by omega) nn hn2 _ true HM.out).mono ?_; rintro e w' ⟨rfl, h3⟩; obtain ⟨hch3, hfh3⟩ := gcell h3; try (have hzh3 : w.heap.size < w'.heap.size := by have := h3.size; (try simp at this); omega); try (have hyh3 : w.heap.size + 1 < w'.heap.size := by have := h3.size; (try simp at this); omega)) | fail)
        go_ret2
        refine ⟨?_, (by repeat' (first | (with_reducible exact G.refl _) | (with_reducible assumption) | (with_reducible refine G.alloc ?_ _) | (with_reducible refine G.drew ?_) | (with_reducible refine G.drewN ?_ _) | (refine G.setCell ?_ (by first | (simp <;> done) | (simp <;> omega)) _) | (with_reducible refine G.trans ?_ (by with_reducible assumption))))⟩
        rw [HR.out]; rfl
      · have HM : Hid (decide (y.size > 2000 ∨ y.size > nn * 40) = false) := decide_eq_false hmany
        have hy2 : y.size ≤ 2000 := by omega
        have hy3 : y.size ≤ nn * 40 := by omega
        obtain ⟨sp, hsp⟩ : ∃ sp, M.split (M.Kn.learnK (M.start s) d) nn (bs y) = sp := ⟨_, rfl⟩
        have hspf := M.split_facts (M.Kn.learnK (M.start s) d) nn (by omega) hn2 (bs y).length (bs y) (Nat.le_refl _)
        rw [hsp, ← bs_size] at hspf
        obtain ⟨sf1, sf2, sf3⟩ := hspf
        have hspl : sp.length ≤ 40 := by
          rw [sf2]
          have : (y.size + nn - 1) / nn < 41 := by rw [Nat.div_lt_iff_lt_mul (by omega)]; omega
          omega
        obtain ⟨q, hq⟩ : ∃ q, decide ((bl ++ sp).length ≤ 40 ∧ M.sizes (bl ++ sp) ≤ 2000) = q := ⟨_, rfl⟩
        have HR : Hid (appD s d (bs st) (bs y) nn = if q then some (M.texts 0 (bl ++ sp)) else none) := by
          show _ = _; unfold appD; rw [hbl]; simp only [Int.toNat_natCast]; rw [hsp, if_pos]
          · rw [← hq]; by_cases h : (bl ++ sp).length ≤ 40 ∧ M.sizes (bl ++ sp) ≤ 2000 <;> simp only [h, if_true, if_false, decide_true, decide_false, Bool.false_eq_true] <;> rfl
          · rw [← hd, ← bs_size]; exact ⟨hroom, by omega⟩
        have hl : (bl ++ sp).length ≤ 100 := by rw [List.length_append]; omega
        have HZ : Hid (∀ p ∈ bl ++ sp, p.size ≤ 65535) := by
          intro p hp; rw [List.mem_append] at hp
          rcases hp with h | h
          · have := (M.Bl.form_len (hf1 p h)).2.2.1; omega
          · have := (sf3 p h).1; omega
        have HZ2 : Hid (∀ p ∈ bl ++ sp, p.body.length ≤ 64) := by
          intro p hp; rw [List.mem_append] at hp
          rcases hp with h | h
          · exact (M.Bl.form_len (hf1 p h)).2.2.2.2
          · exact (sf3 p h).2
        have HRES : Hid (∀ A c W, Rds W 4 A (bl.length + sp.length) (cBl bl ++ cBl sp) → Calls Tryz.prog 13 #[.slice A (bl.length + sp.length) c] W fun e w' => e = .returned (.tuple #[if q then S (M.texts 0 (bl ++ sp)) else .string ⟨#[]⟩, .bool q]) ∧ G W w') := by
          intro A c W hr
          have := v_l6Result (bl ++ sp) hl HZ.out A c W (by rw [List.length_append, cBl_append]; exact hr) HZ2.out q hq
          rw [List.length_append] at this
          exact this
        have HQ := Lib.hid hq
        have HSP := Lib.hid hsp
        clear hbl hd hroom hmany hf1 sf1 sf2 sf3 hq hsp
        go_enter Tryz.func5, Tryz.ntmps5
        go_wp2_with (first | (go_at_call 10; refine (v_l5Blocks st hst _).mono ?_; rintro e w' ⟨hgb, h1⟩; rw [HBL.out] at hgb; obtain ⟨A1, c1, rfl, hown1⟩ := hgb; obtain ⟨hch1, hfh1⟩ := gcell h1; have hz1 : w.heap.size < w'.heap.size := (by have := h1.size; simp at this; omega)) | (go_at_call 11; refine (v_l6Room s hs d b HB.out (by omega) _ nn true HR1.out).mono ?_; rintro e w' ⟨rfl, h2⟩; obtain ⟨hch2, hfh2⟩ := gcell h2; try (have hzh2 : w.heap.size < w'.heap.size := by have := h2.size; (try simp at this); omega); try (have hyh2 : w.heap.size + 1 < w'.heap.size := by have := h2.size; (try simp at this); omega)) | (go_at_call 12; refine (v_l6Many y (by omega) nn hn2 _ false HM.out).mono ?_; rintro e w' ⟨rfl, h3⟩; obtain ⟨hch3, hfh3⟩ := gcell h3; try (have hzh3 : w.heap.size < w'.heap.size := by have := h3.size; (try simp at this); omega); try (have hyh3 : w.heap.size + 1 < w'.heap.size := by have := h3.size; (try simp at this); omega)) | (go_at_call 14; refine (v_l6Split s hs d b HB.out (by omega) HF.out.1 _ nn hn1 hn2 (bs y) y rfl hy2).mono ?_; rintro e w' ⟨⟨A2, c2, rfl, hown2⟩, h4⟩; rw [HSP.out] at hown2 ⊢; obtain ⟨hch4, hfh4⟩ := gcell h4) | (at_builtin; refine app 31 31 Tryz.underlying31 block_info (by rfl) (by omega) rfl (.tmp 33) (.tmp 38) (by rfl) w.heap.size _ bl.length (cBl bl) (by rfl) (own_g (own_mono hown1 (by simp)) (by repeat' (first | (with_reducible exact G.refl _) | (with_reducible assumption) | (with_reducible refine G.alloc ?_ _) | (with_reducible refine G.drew ?_) | (with_reducible refine G.drewN ?_ _) | (refine G.setCell ?_ (by first | (simp <;> done) | (simp <;> omega)) _) | (with_reducible refine G.trans ?_ (by with_reducible assumption))))) _ sp.length (cBl sp) (by rfl) (Src.ofRds Tryz.underlying31 (Rds.own hown2) (cBl_one _)) (by omega) (by have := h4.size; omega) ?_; intro v3 w3 hown3 hgw3 hatw3; have hG3 := G.grown (a := w) ((by repeat' (first | (with_reducible exact G.refl _) | (with_reducible assumption) | (with_reducible refine G.alloc ?_ _) | (with_reducible refine G.drew ?_) | (with_reducible refine G.drewN ?_ _) | (refine G.setCell ?_ (by first | (simp <;> done) | (simp <;> omega)) _) | (with_reducible refine G.trans ?_ (by with_reducible assumption))))) hgw3 (fun g h => by have := own_base (own_mono hown1 (show w.heap.size ≤ _ by simp)) h; omega); obtain ⟨A3, c3, rfl⟩ := own_form hown3) | (go_at_call 13; refine (HRES.out A3 c3 _ (Rds.own hown3)).mono ?_; rintro e w' ⟨rfl, h5⟩; obtain ⟨hch5, hfh5⟩ := gcell h5; try (have hzh5 : w.heap.size < w'.heap.size := by have := h5.size; (try simp at this); omega); try (have hyh5 : w.heap.size + 1 < w'.heap.size := by have := h5.size; (try simp at this); omega)) | fail)
        all_goals
          go_ret2
          refine ⟨?_, (by repeat' (first | (with_reducible exact G.refl _) | (with_reducible assumption) | (with_reducible refine G.alloc ?_ _) | (with_reducible refine G.drew ?_) | (with_reducible refine G.drewN ?_ _) | (refine G.setCell ?_ (by first | (simp <;> done) | (simp <;> omega)) _) | (with_reducible refine G.trans ?_ (by with_reducible assumption))))⟩
          rw [HR.out]
          by_cases hq9 : q = true
          all_goals first | (rw [if_pos hq9]; rfl) | (rw [if_neg hq9]; rfl) | contradiction
    · have HR1 : Hid (decide ((b.size ≤ 2000 ∧ M.Kn.fits s.c d) ∧ 1 ≤ n ∧ n ≤ 64) = false) := decide_eq_false hroom
      have HR : Hid (appD s d (bs st) (bs y) n = none) := by
        show _ = _; unfold appD; rw [hbl]; simp only []; rw [if_neg]; rw [← hd]; exact fun h => hroom h.1
      clear hbl hd hroom hf1
      go_enter Tryz.func5, Tryz.ntmps5
      go_wp2_with (first | (go_at_call 10; refine (v_l5Blocks st hst _).mono ?_; rintro e w' ⟨hgb, h1⟩; rw [HBL.out] at hgb; obtain ⟨A1, c1, rfl, hown1⟩ := hgb; obtain ⟨hch1, hfh1⟩ := gcell h1; have hz1 : w.heap.size < w'.heap.size := (by have := h1.size; simp at this; omega)) | (go_at_call 11; refine (v_l6Room s hs d b HB.out (by omega) _ n false HR1.out).mono ?_; rintro e w' ⟨rfl, h2⟩; obtain ⟨hch2, hfh2⟩ := gcell h2; try (have hzh2 : w.heap.size < w'.heap.size := by have := h2.size; (try simp at this); omega); try (have hyh2 : w.heap.size + 1 < w'.heap.size := by have := h2.size; (try simp at this); omega)) | fail)
      go_ret2
      refine ⟨?_, (by repeat' (first | (with_reducible exact G.refl _) | (with_reducible assumption) | (with_reducible refine G.alloc ?_ _) | (with_reducible refine G.drew ?_) | (with_reducible refine G.drewN ?_ _) | (refine G.setCell ?_ (by first | (simp <;> done) | (simp <;> omega)) _) | (with_reducible refine G.trans ?_ (by with_reducible assumption))))⟩
      rw [HR.out]; rfl
end

set_option maxHeartbeats 1000000 in
theorem v_AppendData_bad (o l m : Int) (ho : M.okS o l m = false) (b st y : ByteArray) (hst : st.size ≤ 10000000) (n : Int) (w : World) : Calls Tryz.prog 5 #[.agg #[.int .i64 o, .int .i64 l, .int .i64 m], .string b, .string st, .string y, .int .i64 n] w fun e w' => e = .returned (.tuple #[.string ⟨#[]⟩, .bool false]) ∧ G w w' := by
  have HO := Lib.hid ho
  clear ho
  cases hbl : M.blocks (bs st) with
  | none =>
    have HBL := Lib.hid hbl
    clear hbl
    go_enter Tryz.func5, Tryz.ntmps5
    go_wp2_with (first | (go_at_call 10; refine (v_l5Blocks st hst _).mono ?_; rintro e w' ⟨hgb, h1⟩; rw [HBL.out] at hgb; obtain ⟨v1, rfl⟩ := hgb; obtain ⟨hch1, hfh1⟩ := gcell h1) | fail)
    go_ret2
    exact ⟨rfl, (by repeat' (first | (with_reducible exact G.refl _) | (with_reducible assumption) | (with_reducible refine G.alloc ?_ _) | (with_reducible refine G.drew ?_) | (with_reducible refine G.drewN ?_ _) | (refine G.setCell ?_ (by first | (simp <;> done) | (simp <;> omega)) _) | (with_reducible refine G.trans ?_ (by with_reducible assumption))))⟩
  | some bl =>
    have HBL := Lib.hid hbl
    clear hbl
    go_enter Tryz.func5, Tryz.ntmps5
    go_wp2_with (first | (go_at_call 10; refine (v_l5Blocks st hst _).mono ?_; rintro e w' ⟨hgb, h1⟩; rw [HBL.out] at hgb; obtain ⟨A1, c1, rfl, hown1⟩ := hgb; obtain ⟨hch1, hfh1⟩ := gcell h1; have hz1 : w.heap.size < w'.heap.size := (by have := h1.size; simp at this; omega)) | (go_at_call 11; refine (c_l6Room_bad o l m HO.out b n _).mono ?_; rintro e w' ⟨rfl, h2⟩; obtain ⟨hch2, hfh2⟩ := gcell h2; try (have hzh2 : w.heap.size < w'.heap.size := by have := h2.size; (try simp at this); omega); try (have hyh2 : w.heap.size + 1 < w'.heap.size := by have := h2.size; (try simp at this); omega)) | fail)
    go_ret2
    exact ⟨rfl, (by repeat' (first | (with_reducible exact G.refl _) | (with_reducible assumption) | (with_reducible refine G.alloc ?_ _) | (with_reducible refine G.drew ?_) | (with_reducible refine G.drewN ?_ _) | (refine G.setCell ?_ (by first | (simp <;> done) | (simp <;> omega)) _) | (with_reducible refine G.trans ?_ (by with_reducible assumption))))⟩
end Go.Proofs.YtlaijbkonapdbaaGreat
