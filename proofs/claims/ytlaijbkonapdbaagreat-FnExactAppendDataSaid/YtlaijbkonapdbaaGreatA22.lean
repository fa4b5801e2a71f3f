/-
  FnExactAppendDataSaid is proved: for every input FnExactAppendData returns true, and each argument reads afterwards as it read before; no conditions. Part 22 of 25.
-/
import Derived.Test.YtlaijbkonapdbaaGreatA19
import Derived.Test.YtlaijbkonapdbaaGreatA21

set_option linter.all false

namespace Go.Proofs.YtlaijbkonapdbaaGreat
open Go.RowKit
attribute [local go_sem] grow_cell grow_frozen conv_one conv_two

theorem v_ParseBlock_spec (b : ByteArray) (k : Nat) (hb : b.size ≤ 100000000) (hk : k ≤ 100000000) (rq : Bool) (hrq : decide (M.okP (bs b) k) = rq) (w : World) :
    Calls Tryz.prog 20 #[.string b, .int .i64 k] w fun e w' => e = .returned (if rq then .tuple #[.agg #[.int .i64 (M.blAt (bs b) k).num, .bool (M.blAt (bs b) k).raw, .int .i64 (M.blAt (bs b) k).size, S (M.blAt (bs b) k).body], .int .i64 (M.enAt (bs b) k), .bool true] else .tuple #[.agg #[.int .i64 0, .bool false, .int .i64 0, .string ⟨#[]⟩], .int .i64 0, .bool false]) ∧ G w w' := by
  by_cases he : M.heAt (bs b) k
  · exact v_ParseBlock_c b k hb hk w he rq hrq ⟨(M.blAt (bs b) k).body.toArray⟩ rfl
  · obtain rfl : rq = false := by rw [← hrq]; exact decide_eq_false (fun h => he h.1)
    by_cases h1 : k + 10 ≤ b.size ∧ M.by1 (bs b) k = 181 ∧ M.by1 (bs b) (k + 1) ≤ 1
    · refine v_ParseBlock_b b k hb hk w h1.1 h1.2.1 h1.2.2 (fun h => he ⟨by rw [← bs_size]; exact h1.1, h1.2.1, h1.2.2, by rw [← bs_size]; exact h⟩)
    · exact v_ParseBlock_a b k hb hk w h1

theorem src_bl2 (W : World) (g : Nat) (p : M.Bl) (y : ByteArray) (hy : S p.body = .string y) (h : W.heap[g]? = some (.cells #[.int .i64 p.num, .bool p.raw, .int .i64 p.size, .string y] 46 (0, 0))) :
    Src Tryz.prog 4 31 (.slice (some ⟨g, 0, none⟩) 1 1) 1 (cBl [p]) W := src_bl W g p (by rw [hy]; exact h)
/-- what the readers of a container give -/
def GivesB (r : Option (List M.Bl)) (w : World) (e : Ending) (w' : World) : Prop :=
  (match r with
    | some l => ∃ A c, e = .returned (.tuple #[.slice A l.length c, .bool true]) ∧ w'.ownsRow w.heap.size 46 4 (.slice A l.length c) l.length (cBl l)
    | none => ∃ v, e = .returned (.tuple #[v, .bool false])) ∧ G w w'
theorem rdBl_end (d : M.Bytes) (k : Nat) (o : List M.Bl) (h : d.length ≤ k) : M.rdBl d k o = some o := by rw [M.rdBl, dif_neg (by omega)]
theorem rdBl_go (d : M.Bytes) (k : Nat) (o : List M.Bl) (h : k < d.length) (h1 : M.okP d k) (h2 : (M.blAt d k).num = o.length) : M.rdBl d k o = M.rdBl d (M.enAt d k) (o ++ [M.blAt d k]) := by
  conv => lhs; rw [M.rdBl]
  rw [dif_pos h, if_pos ⟨h1, h2⟩]
theorem rdBl_no (d : M.Bytes) (k : Nat) (o : List M.Bl) (h : k < d.length) (h1 : ¬ (M.okP d k ∧ (M.blAt d k).num = o.length)) : M.rdBl d k o = none := by
  rw [M.rdBl, dif_pos h, if_neg h1]

section
variable (b : ByteArray) (hb : b.size ≤ 10000000) (w : World)
include hb
set_option maxRecDepth 4000 in
set_option maxHeartbeats 4000000 in
theorem v_l5Blocks : Calls Tryz.prog 10 #[.string b] w fun e w' => GivesB (M.blocks (bs b)) w e w' := by
  go_enter Tryz.func10, Tryz.ntmps10
  go_wp2
  go_loopw [4, 5, 6] (fun v x i wr => ∃ (o : List M.Bl) (k : Nat), i = .int .i64 k ∧ k ≤ b.size ∧ wr.ownsRow w.heap.size 46 4 v o.length (cBl o) ∧ x = .int .i64 (M.sizes o) ∧ Hid (M.rdBl (bs b) 0 [] = M.rdBl (bs b) k o) ∧ Hid (∀ p ∈ o, p.form = true) ∧ o.length ≤ 40 ∧ G w wr) (fun _ _ i _ => b.size - (intOf i).toNat)
  case atStart => exact ⟨[], 0, rfl, by omega, own_alloc _ 46 4 _ _ rfl (Nat.le_refl _), rfl, rfl, (fun p hp => by simp at hp), by simp, (by repeat' (first | (with_reducible exact G.refl _) | (with_reducible assumption) | (with_reducible refine G.alloc ?_ _) | (with_reducible refine G.drew ?_) | (with_reducible refine G.drewN ?_ _) | (refine G.setCell ?_ (by first | (simp <;> done) | (simp <;> omega)) _) | (with_reducible refine G.trans ?_ (by with_reducible assumption))))⟩
  case round =>
    obtain ⟨o, k, rfl, hk, hown, rfl, HR, HF, hol, hG⟩ := hrel
    have hsz : M.sizes o ≤ 2560 := by
      have := M.sizes_le o 64 (fun p hp => (M.Bl.form_len (HF.out p hp)).2.2.1)
      have h2 : 64 * o.length ≤ 64 * 40 := Nat.mul_le_mul_left _ hol
      omega
    obtain ⟨z, hz⟩ : ∃ z, M.sizes o = z := ⟨_, rfl⟩
    rw [hz] at hsz ⊢
    have HZ := Lib.hid hz
    clear hz
    obtain ⟨A0, c0, rfl⟩ := own_form hown
    by_cases hlt : k < b.size
    · have hlt2 : k < (bs b).length := by rw [← bs_size]; exact hlt
      by_cases hp : M.okP (bs b) k
      · have HP : Hid (decide (M.okP (bs b) k) = true) := decide_eq_true hp
        have hf := M.okP_facts hp
        have hfl := M.Bl.form_len hf.1
        by_cases hn : (M.blAt (bs b) k).num = o.length
        · have HR2 : Hid (M.rdBl (bs b) 0 [] = M.rdBl (bs b) (M.enAt (bs b) k) (o ++ [M.blAt (bs b) k])) := by show _ = _; rw [HR.out]; exact rdBl_go _ _ _ hlt2 hp hn
          have hen1 : M.enAt (bs b) k ≤ b.size := by rw [bs_size]; exact hf.2.1
          have hen2 : k + 10 ≤ M.enAt (bs b) k := hf.2.2
          have HPC : Hid (∀ W, Calls Tryz.prog 20 #[.string b, .int .i64 k] W fun e w' => e = .returned (.tuple #[.agg #[.int .i64 (M.blAt (bs b) k).num, .bool (M.blAt (bs b) k).raw, .int .i64 (M.blAt (bs b) k).size, S (M.blAt (bs b) k).body], .int .i64 (M.enAt (bs b) k), .bool true]) ∧ G W w') := by
            intro W; exact v_ParseBlock_spec b k (by omega) (by omega) true HP.out W
          have HF2 : Hid (∀ p ∈ o ++ [M.blAt (bs b) k], p.form = true) := by
            intro p hp2
            rw [List.mem_append] at hp2
            rcases hp2 with h | h
            · exact HF.out p h
            · rw [List.mem_singleton] at h; rw [h]; exact hf.1
          have hpz : (M.blAt (bs b) k).size ≤ 64 := hfl.2.2.1
          have hpn : (M.blAt (bs b) k).num ≤ 39 := hfl.1
          generalize M.blAt (bs b) k = p at *
          generalize M.enAt (bs b) k = en at *
          obtain ⟨y, hy⟩ : ∃ y : ByteArray, S p.body = .string y := ⟨_, rfl⟩
          have HY := Lib.hid hy
          have hnn : ((p.num : Int) != (o.length : Int)) = false := by rw [hn]; simp
          have HN := Lib.hid hn
          have hol2 : o.length ≤ 39 := by omega
          clear hp hf hfl hn hy hlt2
          go_wp2_with (first | (go_at_call 20; refine (HPC.out _).mono ?_; rintro e w' ⟨rfl, h1⟩; obtain ⟨hch1, hfh1⟩ := gcell h1; have hs1 := h1.size; rw [HY.out]) | (at_builtin; refine app 31 31 Tryz.underlying31 block_info (by rfl) (by omega) rfl (.tmp 32) (.tmp 34) (by rfl) w.heap.size _ o.length (cBl o) (by rfl) (((own_g hown h1).alloc _).alloc _) _ 1 (cBl [p]) (by rfl) (src_bl2 _ _ p y HY.out (alloc_at _ _ _ (by simp))) (by omega) (by have := hG.size; simp <;> omega) ?_; intro v2 w2 hown2 hgw2 hatw2; have hbz := (fun o2 => GR.cell (show GR _ w2 _ from hgw2) (g := w'.heap.size) (by simp <;> omega) (fun e => by have := own_lt hown e; omega) o2); have hb2 : w2.cell? ⟨w'.heap.size, 2, none⟩ = some (.int .i64 p.size) := (by rw [hbz 2]; go_cell); have hGa := G.grown (a := w) (b := (w'.alloc _).alloc _) ((by repeat' (first | (with_reducible exact G.refl _) | (with_reducible assumption) | (with_reducible refine G.alloc ?_ _) | (with_reducible refine G.drew ?_) | (with_reducible refine G.drewN ?_ _) | (refine G.setCell ?_ (by first | (simp <;> done) | (simp <;> omega)) _) | (with_reducible refine G.trans ?_ (by with_reducible assumption))))) hgw2 (fun g h => by have := own_base hown h; omega)) | fail)
          go_roundw
          case rel => exact ⟨o ++ [p], en, rfl, hen1, by rw [cBl_append, List.length_append]; exact hown2, by rw [M.sizes_append, HZ.out]; simp [M.sizes], HR2.out, HF2.out, by simp; omega, hGa⟩
          case measure => simp [intOf]; omega
        · have HB : Hid (M.blocks (bs b) = none) := by show _ = _; unfold M.blocks; rw [HR.out, rdBl_no _ _ _ hlt2 (fun h => hn h.2)]
          have HPC : Hid (∀ W, Calls Tryz.prog 20 #[.string b, .int .i64 k] W fun e w' => e = .returned (.tuple #[.agg #[.int .i64 (M.blAt (bs b) k).num, .bool (M.blAt (bs b) k).raw, .int .i64 (M.blAt (bs b) k).size, S (M.blAt (bs b) k).body], .int .i64 (M.enAt (bs b) k), .bool true]) ∧ G W w') := by
            intro W; exact v_ParseBlock_spec b k (by omega) (by omega) true HP.out W
          generalize M.blAt (bs b) k = p at *
          generalize M.enAt (bs b) k = en at *
          obtain ⟨y, hy⟩ : ∃ y : ByteArray, S p.body = .string y := ⟨_, rfl⟩
          have HY := Lib.hid hy
          have hnn : ((p.num : Int) != (o.length : Int)) = true := by simp; omega
          clear hp hf hfl hn hy hlt2
          go_wp2_with (first | (go_at_call 20; refine (HPC.out _).mono ?_; rintro e w' ⟨rfl, h1⟩; obtain ⟨hch1, hfh1⟩ := gcell h1; have hs1 := h1.size; rw [HY.out]) | fail)
          go_ret2
          refine ⟨?_, (by repeat' (first | (with_reducible exact G.refl _) | (with_reducible assumption) | (with_reducible refine G.alloc ?_ _) | (with_reducible refine G.drew ?_) | (with_reducible refine G.drewN ?_ _) | (refine G.setCell ?_ (by first | (simp <;> done) | (simp <;> omega)) _) | (with_reducible refine G.trans ?_ (by with_reducible assumption))))⟩
          rw [HB.out]
          exact ⟨_, rfl⟩
      · have HP : Hid (decide (M.okP (bs b) k) = false) := decide_eq_false hp
        have HB : Hid (M.blocks (bs b) = none) := by show _ = _; unfold M.blocks; rw [HR.out, rdBl_no _ _ _ hlt2 (fun h => hp h.1)]
        have HPC : Hid (∀ W, Calls Tryz.prog 20 #[.string b, .int .i64 k] W fun e w' => e = .returned (.tuple #[.agg #[.int .i64 0, .bool false, .int .i64 0, .string ⟨#[]⟩], .int .i64 0, .bool false]) ∧ G W w') := by
          intro W; exact v_ParseBlock_spec b k (by omega) (by omega) false HP.out W
        clear hp hlt2
        go_wp2_with (first | (go_at_call 20; refine (HPC.out _).mono ?_; rintro e w' ⟨rfl, h1⟩; obtain ⟨hch1, hfh1⟩ := gcell h1; have hs1 := h1.size) | fail)
        go_ret2
        refine ⟨?_, (by repeat' (first | (with_reducible exact G.refl _) | (with_reducible assumption) | (with_reducible refine G.alloc ?_ _) | (with_reducible refine G.drew ?_) | (with_reducible refine G.drewN ?_ _) | (refine G.setCell ?_ (by first | (simp <;> done) | (simp <;> omega)) _) | (with_reducible refine G.trans ?_ (by with_reducible assumption))))⟩
        rw [HB.out]
        exact ⟨_, rfl⟩
    · have HE : Hid (M.rdBl (bs b) 0 [] = some o) := by show _ = _; rw [HR.out]; exact rdBl_end _ _ _ (by rw [← bs_size]; omega)
      by_cases hz2 : z ≤ 2000
      · have HB : Hid (M.blocks (bs b) = some o) := by show _ = _; unfold M.blocks; rw [HE.out]; simp only [HZ.out]; rw [if_pos hz2]
        go_wp2
        go_ret2
        refine ⟨?_, (by repeat' (first | (with_reducible exact G.refl _) | (with_reducible assumption) | (with_reducible refine G.alloc ?_ _) | (with_reducible refine G.drew ?_) | (with_reducible refine G.drewN ?_ _) | (refine G.setCell ?_ (by first | (simp <;> done) | (simp <;> omega)) _) | (with_reducible refine G.trans ?_ (by with_reducible assumption))))⟩
        rw [HB.out]
        exact ⟨A0, c0, rfl, hown⟩
      · have HB : Hid (M.blocks (bs b) = none) := by show _ = _; unfold M.blocks; rw [HE.out]; simp only [HZ.out]; rw [if_neg hz2]
        go_wp2
        go_ret2
        refine ⟨?_, (by repeat' (first | (with_reducible exact G.refl _) | (with_reducible assumption) | (with_reducible refine G.alloc ?_ _) | (with_reducible refine G.drew ?_) | (with_reducible refine G.drewN ?_ _) | (refine G.setCell ?_ (by first | (simp <;> done) | (simp <;> omega)) _) | (with_reducible refine G.trans ?_ (by with_reducible assumption))))⟩
        rw [HB.out]
        exact ⟨_, rfl⟩
end
end Go.Proofs.YtlaijbkonapdbaaGreat
