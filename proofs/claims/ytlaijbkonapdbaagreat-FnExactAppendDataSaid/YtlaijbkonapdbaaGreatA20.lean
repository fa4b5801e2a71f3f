/-
  FnExactAppendDataSaid is proved: for every input FnExactAppendData returns true, and each argument reads afterwards as it read before; no conditions. Part 20 of 25.
-/
import Derived.Test.YtlaijbkonapdbaaGreatA18
import Derived.Test.YtlaijbkonapdbaaGreatA19

set_option linter.all false

namespace Go.Proofs.YtlaijbkonapdbaaGreat
open Go.RowKit
attribute [local go_sem] grow_cell grow_frozen conv_one conv_two
theorem BIs.new (w : World) : BIs w.heap.size w.heap.size [] (w.alloc (.cells #[.pointer none, .slice none 0 0] 62)) :=
  Or.inl ⟨Nat.le_refl _, _, alloc_at _ _ _ rfl, World.ownsRow_nil _ _ _ _, by simp [Value.ownBlock]⟩
theorem BAt.g {B b : Nat} {l : M.Bytes} {w w' : World} {p : Value} (h : Lib.BuilderAt 62 5 B b p (Lib.byteCells l) w) (hg : G w w') : Lib.BuilderAt 62 5 B b p (Lib.byteCells l) w' := by
  obtain ⟨hB, v, hb, ho, hn⟩ := h
  exact ⟨hB, v, (hg.heap (lt_of_block hb)).trans hb, own_g ho hg, hn⟩
theorem BIs.g {B b : Nat} {l : M.Bytes} {w w' : World} (h : BIs B b l w) (hg : G w w') : BIs B b l w' := by
  rcases h with h | h
  · exact Or.inl (BAt.g h hg)
  · exact Or.inr (BAt.g h hg)
theorem BIs.lt {B b : Nat} {l : M.Bytes} {w : World} (h : BIs B b l w) : b < w.heap.size := by
  rcases h with h | h
  · exact h.lt
  · exact h.lt
/-- a block that can bear any number -/
def AnyForm (b : M.Bl) : Prop := ∀ n, n ≤ 39 → M.Bl.form { b with num := n } = true
section
variable (l : List M.Bl) (hl : l.length ≤ 100) (hz : ∀ b ∈ l, AnyForm b) (A : Option Addr) (c : Nat) (w : World) (hr : Rds w 4 A l.length (cBl l))
include hl hz hr
set_option maxRecDepth 4000 in
set_option maxHeartbeats 4000000 in
theorem v_makeContainer (q : Bool) (hq : decide (l.length ≤ 40 ∧ M.sizes l ≤ 2000) = q) : Calls Tryz.prog 17 #[.slice A l.length c] w fun e w' => e = .returned (.tuple #[if q then S (M.texts 0 l) else .string ⟨#[]⟩, .bool q]) ∧ G w w' := by
  have hsz1 : ∀ b ∈ l, b.size ≤ 65535 := fun b hb => by have := (M.Bl.form_len (hz b hb 0 (by omega))).2.2.1; simp only at this; omega
  have hs0 : M.sizes l ≤ 6553500 := by
    have := M.sizes_le l 65535 hsz1
    have h2 : 65535 * l.length ≤ 65535 * 100 := Nat.mul_le_mul_left _ hl
    omega
  have HR := Lib.hid hr
  have HZ := Lib.hid hz
  have HZ1 := Lib.hid hsz1
  clear hr hz hsz1
  by_cases h1 : l.length ≤ 40
  · by_cases h2 : M.sizes l ≤ 2000
    · obtain rfl : q = true := by rw [← hq]; simp [h1, h2]
      clear hq
      have htx : ∀ m, m ≤ l.length → (M.texts 0 (l.take m)).length ≤ 7400 := by
        intro m hm
        have := M.texts_len (l.take m) 0 (fun b h => (by have := (M.Bl.form_len (HZ.out b (List.mem_of_mem_take h) 0 (by omega))).2.2.2.2; simpa using this))
        simp at this
        have h3 : 74 * min m l.length ≤ 74 * 100 := Nat.mul_le_mul_left _ (by omega)
        omega
      have HTX := Lib.hid htx
      clear htx
      go_enter Tryz.func17, Tryz.ntmps17
      go_upto_region 3 with (first | (go_at_call 30; refine (v_sizeOf l hl HZ1.out A c _ (HR.out.g (by repeat' (first | (with_reducible exact G.refl _) | (with_reducible assumption) | (with_reducible refine G.alloc ?_ _) | (with_reducible refine G.drew ?_) | (with_reducible refine G.drewN ?_ _) | (refine G.setCell ?_ (by first | (simp <;> done) | (simp <;> omega)) _) | (with_reducible refine G.trans ?_ (by with_reducible assumption)))))).mono ?_; rintro e w' ⟨rfl, h5⟩; obtain ⟨hch5, hfh5⟩ := gcell h5; try (have hzh5 : w.heap.size < w'.heap.size := by have := h5.size; (try simp at this); omega); try (have hyh5 : w.heap.size + 1 < w'.heap.size := by have := h5.size; (try simp at this); omega)) | fail)
      rename World => w3
      have hG3 : G w w3 := (by repeat' (first | (with_reducible exact G.refl _) | (with_reducible assumption) | (with_reducible refine G.alloc ?_ _) | (with_reducible refine G.drew ?_) | (with_reducible refine G.drewN ?_ _) | (refine G.setCell ?_ (by first | (simp <;> done) | (simp <;> omega)) _) | (with_reducible refine G.trans ?_ (by with_reducible assumption))))
      go_upto_region 4 with fail
      refine wp_gen (fun W => BIs w3.heap.size w3.heap.size [] W ∧ G w3 W) ⟨BIs.new w3, (by repeat' (first | (with_reducible exact G.refl _) | (with_reducible assumption) | (with_reducible refine G.alloc ?_ _) | (with_reducible refine G.drew ?_) | (with_reducible refine G.drewN ?_ _) | (refine G.setCell ?_ (by first | (simp <;> done) | (simp <;> omega)) _) | (with_reducible refine G.trans ?_ (by with_reducible assumption))))⟩ ?_
      rintro W1 ⟨hB1, hG1⟩
      clear h5 hch5 hfh5
      go_wp2
      go_loopw [19] (fun x wr => ∃ (i : Nat), x = .int .i64 i ∧ i ≤ l.length ∧ BIs w3.heap.size w3.heap.size (M.texts 0 (l.take i)) wr ∧ G w3 wr) (fun x _ => l.length - (intOf x).toNat)
      case atStart => exact ⟨0, rfl, by omega, hB1, hG1⟩
      case round =>
        obtain ⟨i, rfl, hi, hB, hG⟩ := hrel
        have hGw : G w wr := hG3.trans hG
        by_cases hlt : i < l.length
        · obtain ⟨g, rfl, hg, hcell⟩ := (HR.out.g hGw).at_ (by omega)
          obtain ⟨q1, q2, q3, q4⟩ := cBl_get l i hlt
          have d0 := hcell _ _ q1
          have d1 := hcell _ _ q2
          have d2 := hcell _ _ q3
          have d3 := hcell _ _ q4
          have hT := M.texts_take l i hlt
          have hF := HZ.out l[i] (List.getElem_mem hlt) i (by omega)
          generalize hpp : l[i] = p at d0 d1 d2 d3 hT hF
          obtain ⟨pn, pr, pz, pb⟩ := p
          dsimp only at d0 d1 d2 d3 hT hF
          obtain ⟨y, hy⟩ : ∃ y : ByteArray, y = ⟨pb.toArray⟩ := ⟨_, rfl⟩
          have hby : bs y = pb := by rw [hy]; rfl
          rw [show S pb = .string y by rw [hy]; rfl] at d3
          have hfl := M.Bl.form_len hF
          dsimp only at hfl
          have hyz : y.size ≤ 64 := by rw [bs_size, hby]; exact hfl.2.2.2.2
          have hpz : pz ≤ 64 := hfl.2.2.1
          rw [← hby] at hT hF
          have HF := Lib.hid hF
          have HT := Lib.hid hT
          have hxl := HTX.out (i + 1) (by omega)
          obtain ⟨yt, hyt⟩ : ∃ y' : ByteArray, y' = ⟨(M.Bl.text ⟨i, pr, pz, bs y⟩).toArray⟩ := ⟨_, rfl⟩
          have HYT : Hid (S (M.Bl.text ⟨i, pr, pz, bs y⟩) = .string yt) := by show _ = _; rw [hyt]; rfl
          have hbt : bs yt = M.Bl.text ⟨i, pr, pz, bs y⟩ := by rw [hyt]; rfl
          have hxl2 : (M.texts 0 (l.take i)).length + yt.size ≤ 7400 := by rw [HT.out, List.length_append] at hxl; rw [bs_size, hbt]; exact hxl
          have HBT := Lib.hid hbt
          have HB := Lib.hid hB
          have HC := Lib.hid hcell
          clear hcell q1 q2 q3 q4 hpp hy hby hfl hyt hbt hT hF hxl hB
          go_wp2_with (first | (go_at_call 31; refine (v_FormatBlock i pz pr y (by omega) (by omega) (by omega) _ HF.out).mono ?_; rintro e w' ⟨rfl, h9⟩; obtain ⟨hch9, hfh9⟩ := gcell h9; rw [HYT.out]; have hs9 := h9.size; simp only [World.size_alloc] at hs9; have hB9 := HB.out.g (w' := w') (by repeat' (first | (with_reducible exact G.refl _) | (with_reducible assumption) | (with_reducible refine G.alloc ?_ _) | (with_reducible refine G.drew ?_) | (with_reducible refine G.drewN ?_ _) | (refine G.setCell ?_ (by first | (simp <;> done) | (simp <;> omega)) _) | (with_reducible refine G.trans ?_ (by with_reducible assumption))))) | (go_at_call 32; refine (v_WriteString w3.heap.size w3.heap.size _ yt _ hB9 (by omega) (by have := hG.size; omega)).mono ?_; rintro e w' ⟨rfl, hB8, hb8⟩) | fail)
          go_roundw
          case rel =>
            refine ⟨i + 1, by go_num, by omega, Or.inr ?_, Below.trans (show G w3 _ from (by repeat' (first | (with_reducible exact G.refl _) | (with_reducible assumption) | (with_reducible refine G.alloc ?_ _) | (with_reducible refine G.drew ?_) | (with_reducible refine G.drewN ?_ _) | (refine G.setCell ?_ (by first | (simp <;> done) | (simp <;> omega)) _) | (with_reducible refine G.trans ?_ (by with_reducible assumption))))) hb8⟩
            rw [HT.out, ← HBT.out]; exact hB8
          case measure => simp [intOf]; omega
        · have hil : l.take i = l := List.take_of_length_le (by omega)
          rw [hil] at hB
          have HB := Lib.hid hB
          clear hil hB
          go_wp2_with (first | (go_at_call 33; refine (v_BString w3.heap.size w3.heap.size _ _ (HB.out.g (by repeat' (first | (with_reducible exact G.refl _) | (with_reducible assumption) | (with_reducible refine G.alloc ?_ _) | (with_reducible refine G.drew ?_) | (with_reducible refine G.drewN ?_ _) | (refine G.setCell ?_ (by first | (simp <;> done) | (simp <;> omega)) _) | (with_reducible refine G.trans ?_ (by with_reducible assumption))))) (by have := hG.size; omega)).mono ?_; rintro e w' ⟨rfl, hb8⟩) | fail)
          go_ret2
          exact ⟨rfl, hG3.trans (Below.trans (show G w3 _ from (by repeat' (first | (with_reducible exact G.refl _) | (with_reducible assumption) | (with_reducible refine G.alloc ?_ _) | (with_reducible refine G.drew ?_) | (with_reducible refine G.drewN ?_ _) | (refine G.setCell ?_ (by first | (simp <;> done) | (simp <;> omega)) _) | (with_reducible refine G.trans ?_ (by with_reducible assumption))))) hb8)⟩
    · obtain rfl : q = false := by rw [← hq]; simp [h2]
      clear hq
      go_enter Tryz.func17, Tryz.ntmps17
      go_wp2_with (first | (go_at_call 30; refine (v_sizeOf l hl HZ1.out A c _ (HR.out.g (by repeat' (first | (with_reducible exact G.refl _) | (with_reducible assumption) | (with_reducible refine G.alloc ?_ _) | (with_reducible refine G.drew ?_) | (with_reducible refine G.drewN ?_ _) | (refine G.setCell ?_ (by first | (simp <;> done) | (simp <;> omega)) _) | (with_reducible refine G.trans ?_ (by with_reducible assumption)))))).mono ?_; rintro e w' ⟨rfl, h5⟩; obtain ⟨hch5, hfh5⟩ := gcell h5; try (have hzh5 : w.heap.size < w'.heap.size := by have := h5.size; (try simp at this); omega); try (have hyh5 : w.heap.size + 1 < w'.heap.size := by have := h5.size; (try simp at this); omega)) | fail)
      go_ret2
      exact ⟨rfl, (by repeat' (first | (with_reducible exact G.refl _) | (with_reducible assumption) | (with_reducible refine G.alloc ?_ _) | (with_reducible refine G.drew ?_) | (with_reducible refine G.drewN ?_ _) | (refine G.setCell ?_ (by first | (simp <;> done) | (simp <;> omega)) _) | (with_reducible refine G.trans ?_ (by with_reducible assumption))))⟩
  · obtain rfl : q = false := by rw [← hq]; simp [h1]
    clear hq
    go_enter Tryz.func17, Tryz.ntmps17
    go_wp2
    go_ret2
    exact ⟨rfl, (by repeat' (first | (with_reducible exact G.refl _) | (with_reducible assumption) | (with_reducible refine G.alloc ?_ _) | (with_reducible refine G.drew ?_) | (with_reducible refine G.drewN ?_ _) | (refine G.setCell ?_ (by first | (simp <;> done) | (simp <;> omega)) _) | (with_reducible refine G.trans ?_ (by with_reducible assumption))))⟩
end
end Go.Proofs.YtlaijbkonapdbaaGreat

namespace Go.Proofs.YtlaijbkonapdbaaGreat
open Go.RowKit
attribute [local go_sem] grow_cell grow_frozen conv_one conv_two
open Go.PlainAid (bt get_bt bt_nonneg bt_le)

theorem results_cell_tmp2 {P : Program} {fn : Func} {p t1 t2 : Tmp} {ty : TypeId} (h : fn.results = #[.cell p ty, .tmp t1, .tmp t2]) (tmps : Array Value) (w : World) (g : Nat) (cs : List Value) (d : TypeDesc)
    (hp : tmps.getD p undef = .pointer (some ⟨g, 0, none⟩)) (hc : ∀ j v, cs[j]? = some v → w.cell? ⟨g, j, none⟩ = some v)
    (hu : P.underlying ty = some d) (hd : (match d with | .struct _ | .array _ _ => true | _ => false) = true) (hi : (P.info? ty).map (·.size) = some cs.length) :
    (results fn tmps).run P w = .ok (.tuple #[.agg cs.toArray, tmps.getD t1 undef, tmps.getD t2 undef]) w := by
  have hl : (loadCells ⟨g, 0, none⟩ cs.length).run P w = .ok cs.toArray w :=
    run_loadCells_list (P := P) w ⟨g, 0, none⟩ cs (fun j v hv => by
      have hadd : (⟨g, 0, none⟩ : Addr).add j = ⟨g, j, none⟩ := by unfold Addr.add; split <;> simp_all
      rw [hadd]; exact hc j v hv)
  have hp' : tmps[p]?.getD undef = .pointer (some ⟨g, 0, none⟩) := by simpa using hp
  cases hq : P.info? ty with
  | none => simp [hq] at hi
  | some i =>
    have hs : i.size = cs.length := by simpa [hq] using hi
    have hagg : (isAgg ty).run P w = .ok true w := by
      unfold isAgg
      rw [Sem.run_bind, run_underlying hu w]
      cases d <;> simp_all
    have hlv : (loadVar ty ⟨g, 0, none⟩).run P w = .ok (.agg cs.toArray) w := by simp [loadVar, Sem.run_bind, hagg, sizeOf, typeInfo, hq, hs, hl]
    simp [results, h, hp', asAddr, hlv]
theorem cells4 {w : World} {g : Nat} {v0 v1 v2 v3 : Value} (h0 : w.cell? ⟨g, 0, none⟩ = some v0) (h1 : w.cell? ⟨g, 1, none⟩ = some v1) (h2 : w.cell? ⟨g, 2, none⟩ = some v2) (h3 : w.cell? ⟨g, 3, none⟩ = some v3) :
    ∀ j v, [v0, v1, v2, v3][j]? = some v → w.cell? ⟨g, j, none⟩ = some v := by
  intro j v h
  match j, h with
  | 0, h => simp at h; subst h; exact h0
  | 1, h => simp at h; subst h; exact h1
  | 2, h => simp at h; subst h; exact h2
  | 3, h => simp at h; subst h; exact h3
theorem cf_l5Pair : ∀ args w, (callFunc 38 args).run Tryz.prog w = .ok (.enter 38 args) w := by intro args w; go_simp
theorem cf_l5Form : ∀ args w, (callFunc 39 args).run Tryz.prog w = .ok (.enter 39 args) w := by intro args w; go_simp
theorem cf_l5Text : ∀ args w, (callFunc 40 args).run Tryz.prog w = .ok (.enter 40 args) w := by intro args w; go_simp

theorem by1_drop_take (d : M.Bytes) (i m j : Nat) (h : j < m) : M.by1 ((d.drop i).take m) j = M.by1 d (i + j) := by
  unfold M.by1; congr 1
  simp only [List.getD_eq_getElem?_getD, List.getElem?_take, List.getElem?_drop, h, if_true]
theorem at2_extract (b : ByteArray) (i : Nat) : M.at2 (bs (b.extract i (i + 2))) 0 = M.at2 (bs b) i := by
  rw [bs_extract, show i + 2 - i = 2 by omega]
  unfold M.at2
  rw [by1_drop_take _ _ _ _ (by omega), by1_drop_take _ _ _ _ (by omega)]
  rfl

section
variable (b : ByteArray) (k : Nat) (hb : b.size ≤ 100000000) (hk : k ≤ 100000000) (w : World)
include hb hk
set_option maxRecDepth 4000 in
set_option maxHeartbeats 4000000 in
theorem v_ParseBlock_a (hn : ¬ (k + 10 ≤ b.size ∧ M.by1 (bs b) k = 181 ∧ M.by1 (bs b) (k + 1) ≤ 1)) : Calls Tryz.prog 20 #[.string b, .int .i64 k] w fun e w' => e = .returned (.tuple #[.agg #[.int .i64 0, .bool false, .int .i64 0, .string ⟨#[]⟩], .int .i64 0, .bool false]) ∧ G w w' := by
  have hget := get_bt b
  by_cases h1 : k ≤ b.size
  · by_cases h2 : k + 10 ≤ b.size
    · have hb0 := bt_by1 b k
      have hb1 := bt_by1 b (k + 1)
      have l0 := bt_le b k
      have l1 := bt_le b (k + 1)
      have n0 := bt_nonneg b k
      have n1 := bt_nonneg b (k + 1)
      by_cases h3 : bt b k = 181
      · have h4 : ¬ bt b (k + 1) ≤ 1 := by intro h; exact hn ⟨h2, by omega, by omega⟩
        clear hn hb0 hb1
        go_enter Tryz.func20, Tryz.ntmps20
        go_wp2
        refine bodyPost_ret (results_cell_tmp2 rfl _ _ w.heap.size [.int .i64 0, .bool false, .int .i64 0, .string ⟨#[]⟩] _ rfl (cells4 (by go_cell) (by go_cell) (by go_cell) (by go_cell)) Tryz.underlying46 rfl (by kernel_rfl)) rfl ?_
        exact ⟨rfl, (by repeat' (first | (with_reducible exact G.refl _) | (with_reducible assumption) | (with_reducible refine G.alloc ?_ _) | (with_reducible refine G.drew ?_) | (with_reducible refine G.drewN ?_ _) | (refine G.setCell ?_ (by first | (simp <;> done) | (simp <;> omega)) _) | (with_reducible refine G.trans ?_ (by with_reducible assumption))))⟩
      · clear hn hb0 hb1
        go_enter Tryz.func20, Tryz.ntmps20
        go_wp2
        refine bodyPost_ret (results_cell_tmp2 rfl _ _ w.heap.size [.int .i64 0, .bool false, .int .i64 0, .string ⟨#[]⟩] _ rfl (cells4 (by go_cell) (by go_cell) (by go_cell) (by go_cell)) Tryz.underlying46 rfl (by kernel_rfl)) rfl ?_
        exact ⟨rfl, (by repeat' (first | (with_reducible exact G.refl _) | (with_reducible assumption) | (with_reducible refine G.alloc ?_ _) | (with_reducible refine G.drew ?_) | (with_reducible refine G.drewN ?_ _) | (refine G.setCell ?_ (by first | (simp <;> done) | (simp <;> omega)) _) | (with_reducible refine G.trans ?_ (by with_reducible assumption))))⟩
    · clear hn
      go_enter Tryz.func20, Tryz.ntmps20
      go_wp2
      refine bodyPost_ret (results_cell_tmp2 rfl _ _ w.heap.size [.int .i64 0, .bool false, .int .i64 0, .string ⟨#[]⟩] _ rfl (cells4 (by go_cell) (by go_cell) (by go_cell) (by go_cell)) Tryz.underlying46 rfl (by kernel_rfl)) rfl ?_
      exact ⟨rfl, (by repeat' (first | (with_reducible exact G.refl _) | (with_reducible assumption) | (with_reducible refine G.alloc ?_ _) | (with_reducible refine G.drew ?_) | (with_reducible refine G.drewN ?_ _) | (refine G.setCell ?_ (by first | (simp <;> done) | (simp <;> omega)) _) | (with_reducible refine G.trans ?_ (by with_reducible assumption))))⟩
  · clear hn
    go_enter Tryz.func20, Tryz.ntmps20
    go_wp2
    refine bodyPost_ret (results_cell_tmp2 rfl _ _ w.heap.size [.int .i64 0, .bool false, .int .i64 0, .string ⟨#[]⟩] _ rfl (cells4 (by go_cell) (by go_cell) (by go_cell) (by go_cell)) Tryz.underlying46 rfl (by kernel_rfl)) rfl ?_
    exact ⟨rfl, (by repeat' (first | (with_reducible exact G.refl _) | (with_reducible assumption) | (with_reducible refine G.alloc ?_ _) | (with_reducible refine G.drew ?_) | (with_reducible refine G.drewN ?_ _) | (refine G.setCell ?_ (by first | (simp <;> done) | (simp <;> omega)) _) | (with_reducible refine G.trans ?_ (by with_reducible assumption))))⟩

set_option maxRecDepth 4000 in
set_option maxHeartbeats 4000000 in
theorem v_ParseBlock_b (h2 : k + 10 ≤ b.size) (h3 : M.by1 (bs b) k = 181) (h4 : M.by1 (bs b) (k + 1) ≤ 1) (hn : ¬ M.enAt (bs b) k ≤ b.size) : Calls Tryz.prog 20 #[.string b, .int .i64 k] w fun e w' => e = .returned (.tuple #[.agg #[.int .i64 0, .bool false, .int .i64 0, .string ⟨#[]⟩], .int .i64 0, .bool false]) ∧ G w w' := by
  have hget := get_bt b
  have h3' : bt b k = 181 := by rw [bt_by1]; omega
  have h4' : bt b (k + 1) ≤ 1 := by rw [bt_by1]; omega
  have n1 := bt_nonneg b (k + 1)
  obtain ⟨y6, hy6⟩ : ∃ y, b.extract (k + 6) (k + 8) = y := ⟨_, rfl⟩
  have hz6 : 2 ≤ y6.size := by rw [← hy6, ByteArray.size_extract]; omega
  have HP : Hid (M.at2 (bs y6) 0 = M.at2 (bs b) (k + 6)) := by show _ = _; rw [← hy6]; exact at2_extract b (k + 6)
  have hlt := M.at2_lt (bs b) (k + 6)
  have hen : M.enAt (bs b) k = k + 10 + M.at2 (bs b) (k + 6) := rfl
  obtain ⟨n, hnn⟩ : ∃ n, M.at2 (bs b) (k + 6) = n := ⟨_, rfl⟩
  rw [hnn] at hlt hen HP
  have hlt : n ≤ 65535 := by omega
  have hn2 : b.size < k + 10 + n := by omega
  have HP := HP
  clear hen hn hnn h3 h4
  go_enter Tryz.func20, Tryz.ntmps20
  go_wp2_with (first | (go_at_call 38; refine (v_l5Pair y6 hz6 _).mono ?_; rintro e w' ⟨rfl, h1⟩; obtain ⟨hch1, hfh1⟩ := gcell h1; rw [HP.out]) | fail)
  refine bodyPost_ret (results_cell_tmp2 rfl _ _ w.heap.size [.int .i64 0, .bool false, .int .i64 0, .string ⟨#[]⟩] _ rfl (cells4 (by go_cell) (by go_cell) (by go_cell) (by go_cell)) Tryz.underlying46 rfl (by kernel_rfl)) rfl ?_
  exact ⟨rfl, (by repeat' (first | (with_reducible exact G.refl _) | (with_reducible assumption) | (with_reducible refine G.alloc ?_ _) | (with_reducible refine G.drew ?_) | (with_reducible refine G.drewN ?_ _) | (refine G.setCell ?_ (by first | (simp <;> done) | (simp <;> omega)) _) | (with_reducible refine G.trans ?_ (by with_reducible assumption))))⟩
end
end Go.Proofs.YtlaijbkonapdbaaGreat
