/-
  FnExactAppendDataSaid is proved: for every input FnExactAppendData returns true, and each argument reads afterwards as it read before; no conditions. Part 19 of 25.
-/
import Derived.Test.YtlaijbkonapdbaaGreatA03
import Derived.Test.YtlaijbkonapdbaaGreatA17
import Derived.Test.YtlaijbkonapdbaaGreatA18
import Derived.Lib.Builder
import Derived.Lib.AppendStr
import Derived.Lib.UnsafeStr
import Derived.Laws.Externs

set_option linter.all false

namespace Go.Proofs.YtlaijbkonapdbaaGreat
open Go.RowKit
attribute [local go_sem] grow_cell grow_frozen conv_one conv_two
theorem cf_l5Block : ∀ args w, (callFunc 25 args).run Tryz.prog w = .ok (.enter 25 args) w := by intro args w; go_simp
theorem block_info : (Tryz.prog.info? 46).map (fun i => (i.zero, i.size, i.bytes)) = some (some (.agg #[.int .i64 0, .bool false, .int .i64 0, .string ⟨#[]⟩]), 4, 40) := by kernel_rfl
theorem cBl_one (ps : List M.Bl) : ∀ u ∈ cBl ps, u.oneCell' = true := by
  induction ps with
  | nil => intro u hu; simp [cBl] at hu
  | cons p t ih =>
    intro u hu
    simp only [cBl, List.flatMap_cons, List.mem_append] at hu
    rcases hu with hu | hu
    · simp at hu; rcases hu with rfl | rfl | rfl | rfl <;> rfl
    · exact ih u hu
/-- one block laid in a new row is a source -/
theorem src_bl (W : World) (g : Nat) (p : M.Bl) (h : W.heap[g]? = some (.cells #[.int .i64 p.num, .bool p.raw, .int .i64 p.size, S p.body] 46 (0, 0))) :
    Src Tryz.prog 4 31 (.slice (some ⟨g, 0, none⟩) 1 1) 1 (cBl [p]) W := by
  refine Src.ofRds Tryz.underlying31 ⟨rfl, fun _ => ⟨g, rfl, lt_of_block h, ?_⟩⟩ (cBl_one _)
  intro j u hu
  have e : cBl [p] = [.int .i64 p.num, .bool p.raw, .int .i64 p.size, S p.body] := rfl
  rw [e] at hu
  rw [cell_of_row W g j _ _ _ h]
  simpa using hu
theorem heldS {w w' : World} (hg : G w w') {b : Nat} {v0 v1 v2 : Value} (h : b < w.heap.size ∧ w.cell? ⟨b, 0, none⟩ = some v0 ∧ w.cell? ⟨b, 1, none⟩ = some v1 ∧ w.cell? ⟨b, 2, none⟩ = some v2) :
    b < w'.heap.size ∧ w'.cell? ⟨b, 0, none⟩ = some v0 ∧ w'.cell? ⟨b, 1, none⟩ = some v1 ∧ w'.cell? ⟨b, 2, none⟩ = some v2 :=
  ⟨Nat.lt_of_lt_of_le h.1 hg.size, (hg.cell (p := ⟨b, 0, none⟩) h.1).trans h.2.1, (hg.cell (p := ⟨b, 1, none⟩) h.1).trans h.2.2.1, (hg.cell (p := ⟨b, 2, none⟩) h.1).trans h.2.2.2⟩
theorem heldS2 {w w' : World} {r : Option Nat} (hg : w.grownBy w' r) {b : Nat} (hb : r ≠ some b) {v0 v1 v2 : Value} (h : b < w.heap.size ∧ w.cell? ⟨b, 0, none⟩ = some v0 ∧ w.cell? ⟨b, 1, none⟩ = some v1 ∧ w.cell? ⟨b, 2, none⟩ = some v2) :
    b < w'.heap.size ∧ w'.cell? ⟨b, 0, none⟩ = some v0 ∧ w'.cell? ⟨b, 1, none⟩ = some v1 ∧ w'.cell? ⟨b, 2, none⟩ = some v2 := by
  have hg' : GR w w' r := hg
  exact ⟨Nat.lt_of_lt_of_le h.1 hg.size, (hg'.cell h.1 hb 0).trans h.2.1, (hg'.cell h.1 hb 1).trans h.2.2.1, (hg'.cell h.1 hb 2).trans h.2.2.2⟩
section
variable (s : M.St) (hs : s.Ok) (d : M.Bytes) (b : ByteArray) (hb : bs b = d) (hz : b.size ≤ 100000000) (hd : b.size ≤ 2000 ∧ M.Kn.fits s.c d) (w : World)
include hs hb hz hd
set_option maxRecDepth 4000 in
set_option maxHeartbeats 4000000 in
theorem v_l6Split (n : Nat) (hn1 : 1 ≤ n) (hn : n ≤ 64) (t : M.Bytes) (y : ByteArray) (hy : bs y = t) (hyz : y.size ≤ 2000) :
    Calls Tryz.prog 14 #[stV s, .string b, .string y, .int .i64 n] w fun e w' => (∃ A c, e = .returned (.slice A (M.split (M.Kn.learnK (M.start s) d) n t).length c) ∧ w'.ownsRow w.heap.size 46 4 (.slice A (M.split (M.Kn.learnK (M.start s) d) n t).length c) (M.split (M.Kn.learnK (M.start s) d) n t).length (cBl (M.split (M.Kn.learnK (M.start s) d) n t))) ∧ G w w' := by
  have HB := Lib.hid hb
  have HD := Lib.hid hd
  have HY := Lib.hid hy
  obtain ⟨k, hk⟩ : ∃ k, M.Kn.learnK (M.start s) d = k := ⟨_, rfl⟩
  rw [hk]
  have HK := Lib.hid hk
  clear hb hd hy hk
  go_enter Tryz.func14, Tryz.ntmps14
  go_wp2
  go_loopw [9, 2] (fun v x wr => ∃ (o : List M.Bl) (tt : M.Bytes) (yy : ByteArray), x = .string yy ∧ Hid (bs yy = tt) ∧ o.length + yy.size ≤ y.size ∧ wr.ownsRow (w.heap.size + 1) 46 4 v o.length (cBl o) ∧ Hid (M.split k n t = o ++ M.split k n tt) ∧ (w.heap.size < wr.heap.size ∧ wr.cell? ⟨w.heap.size, 0, none⟩ = some (.int .i64 s.ord) ∧ wr.cell? ⟨w.heap.size, 1, none⟩ = some (.int .i64 s.lit) ∧ wr.cell? ⟨w.heap.size, 2, none⟩ = some (.int .i64 s.most)) ∧ G w wr) (fun _ x _ => match x with | .string s => s.size | _ => 0)
  case atStart => exact ⟨[], t, y, rfl, HY.out, by simp, own_alloc _ 46 4 _ _ (by simp) (by simp), rfl, ⟨by simp <;> omega, by go_cell, by go_cell, by go_cell⟩, (by repeat' (first | (with_reducible exact G.refl _) | (with_reducible assumption) | (with_reducible refine G.alloc ?_ _) | (with_reducible refine G.drew ?_) | (with_reducible refine G.drewN ?_ _) | (refine G.setCell ?_ (by first | (simp <;> done) | (simp <;> omega)) _) | (with_reducible refine G.trans ?_ (by with_reducible assumption))))⟩
  case round =>
    obtain ⟨o, tt, yy, rfl, HTT, hol, hown, HSP, ⟨hc9, hc0, hc1, hc2⟩, hG⟩ := hrel
    by_cases htt : tt = []
    · have hq1 : yy.toList.isEmpty = true := by rw [ByteArray.toList_eq, show yy.data.toList = tt from HTT.out, htt]; rfl
      have HO : Hid (M.split k n t = o) := by show _ = _; rw [HSP.out, htt, M.split_nil]; simp
      clear htt
      obtain ⟨A1, c1, rfl⟩ := own_form hown
      go_wp2
      go_ret
      rw [HO.out]
      exact ⟨⟨A1, c1, rfl, own_mono hown (by omega)⟩, (by repeat' (first | (with_reducible exact G.refl _) | (with_reducible assumption) | (with_reducible refine G.alloc ?_ _) | (with_reducible refine G.drew ?_) | (with_reducible refine G.drewN ?_ _) | (refine G.setCell ?_ (by first | (simp <;> done) | (simp <;> omega)) _) | (with_reducible refine G.trans ?_ (by with_reducible assumption))))⟩
    · have hq1 : yy.toList.isEmpty = false := by rw [ByteArray.toList_eq, show yy.data.toList = tt from HTT.out]; simpa using htt
      have hyy1 : 1 ≤ yy.size := by
        rw [bs_size, HTT.out]
        cases tt with
        | nil => exact absurd rfl htt
        | cons => simp
      obtain ⟨m, hm⟩ : ∃ m, min n yy.size = m := ⟨_, rfl⟩
      have hm1 : 1 ≤ m := by omega
      have hm2 : m ≤ yy.size := by omega
      have hm3 : m ≤ 64 := by omega
      have hmi : min (n : Int) (yy.size : Int) = (m : Int) := by omega
      have htake : tt.take m = tt.take n := by
        rw [← hm]
        rcases Nat.le_total n yy.size with h | h
        · rw [Nat.min_eq_left h]
        · rw [Nat.min_eq_right h, List.take_of_length_le (by rw [← HTT.out, ← bs_size]; omega), List.take_of_length_le (by rw [← HTT.out, ← bs_size]; omega)]
      have hdrop : tt.drop m = tt.drop n := by
        rw [← hm]
        rcases Nat.le_total n yy.size with h | h
        · rw [Nat.min_eq_left h]
        · rw [Nat.min_eq_right h, List.drop_of_length_le (by rw [← HTT.out, ← bs_size]; omega), List.drop_of_length_le (by rw [← HTT.out, ← bs_size]; omega)]
      obtain ⟨ya, hya⟩ : ∃ ya, yy.extract 0 m = ya := ⟨_, rfl⟩
      obtain ⟨yr, hyr⟩ : ∃ yr, yy.extract m yy.size = yr := ⟨_, rfl⟩
      have hbya : bs ya = tt.take n := by rw [← hya, bs_extract, HTT.out]; simpa using htake
      have hbyr : bs yr = tt.drop n := by rw [← hyr, bs_extract, HTT.out, ← hdrop]; apply List.take_of_length_le; rw [List.length_drop, ← HTT.out, ← bs_size]; omega
      have hyaz : ya.size ≤ 64 := by rw [← hya, ByteArray.size_extract]; omega
      have hyrz : yr.size + m = yy.size := by rw [← hyr, ByteArray.size_extract]; omega
      have hyrz2 : yr.size < yy.size := by omega
      have hyrz3 : o.length + 1 + yr.size ≤ y.size := by omega
      obtain ⟨p, hp⟩ : ∃ p, M.mkBl k 0 (tt.take n) = p := ⟨_, rfl⟩
      have HSP2 : Hid (M.split k n t = (o ++ [p]) ++ M.split k n (tt.drop n)) := by show _ = _; rw [HSP.out, M.split_cons k n tt htt (by omega), hp]; simp
      have HYA := Lib.hid hbya
      have HYR := Lib.hid hbyr
      have HP : Hid (M.mkBl (M.Kn.learnK (M.start s) d) 0 (tt.take n) = p) := by show _ = _; rw [HK.out]; exact hp
      clear htt hm htake hdrop hbya hbyr hp hyrz
      have hj1 : (m : Int) ≤ yy.size := by omega
      have hj0 : (0 : Int) ≤ (m : Int) := by omega
      have hx1 : yy.extract 0 (m : Int).toNat = ya := by rw [Int.toNat_natCast]; exact hya
      go_wp2
      go_region_held3 (fun w' => w.heap.size < w'.heap.size ∧ w'.cell? ⟨w.heap.size, 0, none⟩ = some (.int .i64 s.ord) ∧ w'.cell? ⟨w.heap.size, 1, none⟩ = some (.int .i64 s.lit) ∧ w'.cell? ⟨w.heap.size, 2, none⟩ = some (.int .i64 s.most)) (first | exact hS9 | exact heldS (by repeat' (first | (with_reducible exact G.refl _) | (with_reducible assumption) | (with_reducible refine G.alloc ?_ _) | (with_reducible refine G.drew ?_) | (with_reducible refine G.drewN ?_ _) | (refine G.setCell ?_ (by first | (simp <;> done) | (simp <;> omega)) _) | (with_reducible refine G.trans ?_ (by with_reducible assumption)))) ⟨hc9, hc0, hc1, hc2⟩) (first | (refine step_fn ?_ 25 #[.tmp 19, .tmp 20, .const (.int .i64 0), .tmp 23] #[26, 9, 3, 9] ?_ #[stV s, .string b, .int .i64 0, .string ya] ?_ cf_l5Block ?_; exact rfl; exact rfl; (simp only [List.map_toArray, List.map_cons, List.map_nil, Act.eval]; rfl); refine (v_l5Block s hs d b HB.out hz _ HD.out 0 (tt.take n) ya HYA.out hyaz).mono ?_; rintro e wA ⟨⟨p', hp', rfl⟩, h2⟩; rw [HP.out] at hp'; rw [hp']; clear hp'; obtain ⟨hch2, hfh2⟩ := gcell h2; have hsA := h2.size; (try simp only [World.size_drew, World.size_alloc] at hsA); have hownA := own_g (w' := wA) hown (by repeat' (first | (with_reducible exact G.refl _) | (with_reducible assumption) | (with_reducible refine G.alloc ?_ _) | (with_reducible refine G.drew ?_) | (with_reducible refine G.drewN ?_ _) | (refine G.setCell ?_ (by first | (simp <;> done) | (simp <;> omega)) _) | (with_reducible refine G.trans ?_ (by with_reducible assumption)))); refine ⟨_, rfl, ?_⟩) | (refine step_app 31 31 Tryz.underlying31 block_info (by rfl) (by omega) (by rfl) (.tmp 18) (.tmp 25) (by rfl) (w.heap.size + 1) _ o.length (cBl o) (by rfl) (hownA.alloc _) _ 1 (cBl [p]) (by rfl) (src_bl _ _ p (heap_alloc_new wA _)) (by omega) (by have := hG.size; simp <;> omega) ?_; intro v1 w1 hown1 hg1 hat1; have hG1 := G.grown (a := w) (b := wA.alloc _) ((by repeat' (first | (with_reducible exact G.refl _) | (with_reducible assumption) | (with_reducible refine G.alloc ?_ _) | (with_reducible refine G.drew ?_) | (with_reducible refine G.drewN ?_ _) | (refine G.setCell ?_ (by first | (simp <;> done) | (simp <;> omega)) _) | (with_reducible refine G.trans ?_ (by with_reducible assumption))))) hg1 (fun g h => by have := own_base hown h; omega); have hS8 := heldS (w := wr) (w' := wA.alloc (.cells #[.int .i64 p.num, .bool p.raw, .int .i64 p.size, S p.body] 46)) ((by repeat' (first | (with_reducible exact G.refl _) | (with_reducible assumption) | (with_reducible refine G.alloc ?_ _) | (with_reducible refine G.drew ?_) | (with_reducible refine G.drewN ?_ _) | (refine G.setCell ?_ (by first | (simp <;> done) | (simp <;> omega)) _) | (with_reducible refine G.trans ?_ (by with_reducible assumption))))) ⟨hc9, hc0, hc1, hc2⟩; have hS9 := heldS2 hg1 (fun e => by have := own_base hown e; omega) hS8) | fail)
      have hG9 := hG1
      obtain ⟨hd9, hd0, hd1, hd2⟩ := hS9
      have hown9 : w1.ownsRow (w.heap.size + 1) 46 4 v1 (o ++ [p]).length (cBl (o ++ [p])) := by
        rw [cBl_append, List.length_append]; exact hown1
      have hlen9 : (o ++ [p]).length + yr.size ≤ y.size := by rw [List.length_append]; exact hyrz3
      clear hS8 hown1 hat1 hg1
      go_wp2
      go_roundw
      case rel => exact ⟨o ++ [p], tt.drop n, yr, rfl, HYR.out, hlen9, hown9, HSP2.out, ⟨hd9, hd0, hd1, hd2⟩, hG9⟩
      case measure => exact hyrz2
end
end Go.Proofs.YtlaijbkonapdbaaGreat

namespace Go.Proofs.YtlaijbkonapdbaaGreat
open Go.RowKit
attribute [local go_sem] grow_cell grow_frozen conv_one conv_two
theorem cf_makeBlock : ∀ args w, (callFunc 46 args).run Tryz.prog w = .ok (.enter 46 args) w := by intro args w; go_simp
theorem row4 {W : World} {b : Nat} {v0 v1 v2 v3 : Value} {t : TypeId} (h : W.heap[b]? = some (.cells #[v0, v1, v2, v3] t (0, 0))) : b < W.heap.size ∧ (∀ o, W.frozen? ⟨b, o, none⟩ = false) ∧ W.cell? ⟨b, 0, none⟩ = some v0 ∧ W.cell? ⟨b, 1, none⟩ = some v1 ∧ W.cell? ⟨b, 2, none⟩ = some v2 ∧ W.cell? ⟨b, 3, none⟩ = some v3 :=
  ⟨lt_of_block h, fun o => frozen_of_row W b o _ _ h, by rw [cell_of_row W b 0 _ _ _ h]; rfl, by rw [cell_of_row W b 1 _ _ _ h]; rfl, by rw [cell_of_row W b 2 _ _ _ h]; rfl, by rw [cell_of_row W b 3 _ _ _ h]; rfl⟩
section
variable (k : M.Kn) (hk : k.V) (A : Option Addr) (c : Nat) (w : World) (hr : Rds w 2 A k.ps.length (cP k.ps)) (hA : ∀ a, A = some a → a.block < w.heap.size)
include hk hr hA
set_option maxHeartbeats 2000000 in
theorem v_makeBlock (t : M.Bytes) (y : ByteArray) (hy : bs y = t) (hyz : y.size ≤ 64) :
    Calls Tryz.prog 46 #[knV k A c, .string y] w fun e w' => (∃ p, p = M.mkBl k 0 t ∧ e = .returned (.agg #[.int .i64 p.num, .bool p.raw, .int .i64 p.size, S p.body])) ∧ G w w' := by
  have HY := Lib.hid hy
  have HR := Lib.hid hr
  have HA := Lib.hid hA
  have htl : t.length ≤ 64 := by rw [← hy, ← bs_size]; exact hyz
  obtain ⟨q, hq⟩ : ∃ q, decide (M.Kn.fits k.s.c t) = q := ⟨_, rfl⟩
  have HQ := Lib.hid hq
  obtain ⟨yc, hyc⟩ : ∃ yc : ByteArray, yc = ⟨(M.Kn.compress k t).toArray⟩ := ⟨_, rfl⟩
  have HYC : Hid ((if q then S (M.Kn.compress k t) else .string (ByteArray.mk #[])) = .string (if q then yc else ⟨#[]⟩)) := by show _ = _; rw [hyc]; cases q <;> rfl
  have hcz : (M.Kn.compress k t).length = yc.size := by rw [bs_size, hyc]; rfl
  have hsy : S t = .string y := (bs_eq hy).symm
  have hcS : S (M.Kn.compress k t) = .string yc := by rw [hyc]; rfl
  have hlen : t.length = y.size := by rw [bs_size, hy]
  have hmk : M.mkBl k 0 t = if q = true ∧ yc.size < y.size then ⟨0, false, y.size, M.Kn.compress k t⟩ else ⟨0, true, y.size, t⟩ := by
    unfold M.mkBl
    rw [hcz, hlen]
    by_cases h : M.Kn.fits k.s.c t <;> simp [h, ← hq]
  cases q
  · have HM : Hid (M.mkBl k 0 t = ⟨0, true, y.size, t⟩) := by show _ = _; rw [hmk]; simp
    have HS := Lib.hid hsy
    clear hy hr hA hq hyc hcz hcS hlen hmk hsy
    go_enter Tryz.func46, Tryz.ntmps46
    go_wp2_with (first | (go_at_call 66; refine (v_Compress_impl k hk A c _ (HR.out.g (by repeat' (first | (with_reducible exact G.refl _) | (with_reducible assumption) | (with_reducible refine G.alloc ?_ _) | (with_reducible refine G.drew ?_) | (with_reducible refine G.drewN ?_ _) | (refine G.setCell ?_ (by first | (simp <;> done) | (simp <;> omega)) _) | (with_reducible refine G.trans ?_ (by with_reducible assumption))))) (fun a ha => by have := HA.out a ha; simp; omega) t (by omega) y HY.out false HQ.out).mono ?_; rintro e w' ⟨rfl, h3⟩; obtain ⟨hch3, hfh3⟩ := gcell h3; rw [HYC.out]; have hb := row4 ((h3.heap (k := w.heap.size + 1) (by simp)).trans (alloc_at _ _ _ (by simp))); obtain ⟨k9, kf, k0, k1, k2, k3⟩ := hb) | fail)
    refine bodyPost_ret (results_cells rfl _ _ (w.heap.size + 1) [.int .i64 0, .bool true, .int .i64 y.size, .string y] _ rfl (cells4b (by go_cell) (by go_cell) (by go_cell) (by go_cell)) Tryz.underlying46 rfl (by kernel_rfl)) rfl ?_
    refine ⟨⟨_, rfl, ?_⟩, (by repeat' (first | (with_reducible exact G.refl _) | (with_reducible assumption) | (with_reducible refine G.alloc ?_ _) | (with_reducible refine G.drew ?_) | (with_reducible refine G.drewN ?_ _) | (refine G.setCell ?_ (by first | (simp <;> done) | (simp <;> omega)) _) | (with_reducible refine G.trans ?_ (by with_reducible assumption))))⟩
    rw [HM.out, HS.out]; rfl
  · by_cases hlt : yc.size < y.size
    · have HM : Hid (M.mkBl k 0 t = ⟨0, false, y.size, M.Kn.compress k t⟩) := by show _ = _; rw [hmk]; simp [hlt]
      have HS := Lib.hid hcS
      clear hy hr hA hq hyc hcz hcS hlen hmk hsy
      go_enter Tryz.func46, Tryz.ntmps46
      go_wp2_with (first | (go_at_call 66; refine (v_Compress_impl k hk A c _ (HR.out.g (by repeat' (first | (with_reducible exact G.refl _) | (with_reducible assumption) | (with_reducible refine G.alloc ?_ _) | (with_reducible refine G.drew ?_) | (with_reducible refine G.drewN ?_ _) | (refine G.setCell ?_ (by first | (simp <;> done) | (simp <;> omega)) _) | (with_reducible refine G.trans ?_ (by with_reducible assumption))))) (fun a ha => by have := HA.out a ha; simp; omega) t (by omega) y HY.out true HQ.out).mono ?_; rintro e w' ⟨rfl, h3⟩; obtain ⟨hch3, hfh3⟩ := gcell h3; rw [HYC.out]; have hb := row4 ((h3.heap (k := w.heap.size + 1) (by simp)).trans (alloc_at _ _ _ (by simp))); obtain ⟨k9, kf, k0, k1, k2, k3⟩ := hb) | fail)
      refine bodyPost_ret (results_cells rfl _ _ (w.heap.size + 1) [.int .i64 0, .bool false, .int .i64 y.size, .string yc] _ rfl (cells4b (by go_cell) (by go_cell) (by go_cell) (by go_cell)) Tryz.underlying46 rfl (by kernel_rfl)) rfl ?_
      refine ⟨⟨_, rfl, ?_⟩, (by repeat' (first | (with_reducible exact G.refl _) | (with_reducible assumption) | (with_reducible refine G.alloc ?_ _) | (with_reducible refine G.drew ?_) | (with_reducible refine G.drewN ?_ _) | (refine G.setCell ?_ (by first | (simp <;> done) | (simp <;> omega)) _) | (with_reducible refine G.trans ?_ (by with_reducible assumption))))⟩
      rw [HM.out, HS.out]; rfl
    · have HM : Hid (M.mkBl k 0 t = ⟨0, true, y.size, t⟩) := by show _ = _; rw [hmk]; simp [hlt]
      have HS := Lib.hid hsy
      clear hy hr hA hq hyc hcz hcS hlen hmk hsy
      go_enter Tryz.func46, Tryz.ntmps46
      go_wp2_with (first | (go_at_call 66; refine (v_Compress_impl k hk A c _ (HR.out.g (by repeat' (first | (with_reducible exact G.refl _) | (with_reducible assumption) | (with_reducible refine G.alloc ?_ _) | (with_reducible refine G.drew ?_) | (with_reducible refine G.drewN ?_ _) | (refine G.setCell ?_ (by first | (simp <;> done) | (simp <;> omega)) _) | (with_reducible refine G.trans ?_ (by with_reducible assumption))))) (fun a ha => by have := HA.out a ha; simp; omega) t (by omega) y HY.out true HQ.out).mono ?_; rintro e w' ⟨rfl, h3⟩; obtain ⟨hch3, hfh3⟩ := gcell h3; rw [HYC.out]; have hb := row4 ((h3.heap (k := w.heap.size + 1) (by simp)).trans (alloc_at _ _ _ (by simp))); obtain ⟨k9, kf, k0, k1, k2, k3⟩ := hb) | fail)
      refine bodyPost_ret (results_cells rfl _ _ (w.heap.size + 1) [.int .i64 0, .bool true, .int .i64 y.size, .string y] _ rfl (cells4b (by go_cell) (by go_cell) (by go_cell) (by go_cell)) Tryz.underlying46 rfl (by kernel_rfl)) rfl ?_
      refine ⟨⟨_, rfl, ?_⟩, (by repeat' (first | (with_reducible exact G.refl _) | (with_reducible assumption) | (with_reducible refine G.alloc ?_ _) | (with_reducible refine G.drew ?_) | (with_reducible refine G.drewN ?_ _) | (refine G.setCell ?_ (by first | (simp <;> done) | (simp <;> omega)) _) | (with_reducible refine G.trans ?_ (by with_reducible assumption))))⟩
      rw [HM.out, HS.out]; rfl
end
end Go.Proofs.YtlaijbkonapdbaaGreat

namespace Go.Proofs.YtlaijbkonapdbaaGreat
open Go.RowKit
attribute [local go_sem] grow_cell grow_frozen conv_one conv_two
theorem held6g {w w' : World} {r : Option Nat} (hg : w.grownBy w' r) {b : Nat} (hb : r ≠ some b) {v0 v1 v2 v3 v4 v5 : Value}
    (h : b < w.heap.size ∧ w.cell? ⟨b, 0, none⟩ = some v0 ∧ w.cell? ⟨b, 1, none⟩ = some v1 ∧ w.cell? ⟨b, 2, none⟩ = some v2 ∧ w.cell? ⟨b, 3, none⟩ = some v3 ∧ w.cell? ⟨b, 4, none⟩ = some v4 ∧ w.cell? ⟨b, 5, none⟩ = some v5) :
    b < w'.heap.size ∧ w'.cell? ⟨b, 0, none⟩ = some v0 ∧ w'.cell? ⟨b, 1, none⟩ = some v1 ∧ w'.cell? ⟨b, 2, none⟩ = some v2 ∧ w'.cell? ⟨b, 3, none⟩ = some v3 ∧ w'.cell? ⟨b, 4, none⟩ = some v4 ∧ w'.cell? ⟨b, 5, none⟩ = some v5 := by
  obtain ⟨h1, h3, h4, h5, h6, h7, h8⟩ := h
  have hg' : GR w w' r := hg
  exact ⟨Nat.lt_of_lt_of_le h1 hg.size, (hg'.cell h1 hb 0).trans h3, (hg'.cell h1 hb 1).trans h4, (hg'.cell h1 hb 2).trans h5, (hg'.cell h1 hb 3).trans h6, (hg'.cell h1 hb 4).trans h7, (hg'.cell h1 hb 5).trans h8⟩
section
variable (k : M.Kn) (hk : k.V) (A : Option Addr) (c : Nat) (w : World) (hr : Rds w 2 A k.ps.length (cP k.ps)) (hA : ∀ a, A = some a → a.block < w.heap.size)
include hk hr hA
set_option maxRecDepth 4000 in
set_option maxHeartbeats 4000000 in
theorem v_makeBlocks (n : Nat) (hn1 : 1 ≤ n) (hn : n ≤ 64) (t : M.Bytes) (y : ByteArray) (hy : bs y = t) (hyz : y.size ≤ 2000) :
    Calls Tryz.prog 29 #[knV k A c, .string y, .int .i64 n] w fun e w' => (∃ A c, e = .returned (.slice A (M.split k n t).length c) ∧ w'.ownsRow w.heap.size 46 4 (.slice A (M.split k n t).length c) (M.split k n t).length (cBl (M.split k n t))) ∧ G w w' := by
  have HY := Lib.hid hy
  have HR := Lib.hid hr
  have HA := Lib.hid hA
  clear hy hr hA
  go_enter Tryz.func29, Tryz.ntmps29
  go_upto_region 1 with fail
  refine wp_gen (fun W => G w W ∧ W.heap[w.heap.size]? = some (.cells #[.int .i64 k.s.ord, .int .i64 k.s.lit, .int .i64 k.s.most, .slice A k.ps.length c, .int .i64 k.base, .int .i64 k.last] 40 (0, 0))) ⟨(by repeat' (first | (with_reducible exact G.refl _) | (with_reducible assumption) | (with_reducible refine G.alloc ?_ _) | (with_reducible refine G.drew ?_) | (with_reducible refine G.drewN ?_ _) | (refine G.setCell ?_ (by first | (simp <;> done) | (simp <;> omega)) _) | (with_reducible refine G.trans ?_ (by with_reducible assumption)))), alloc_at _ _ _ rfl⟩ ?_
  rintro W1 ⟨hG1, hb1⟩
  go_wp2
  go_loopw [7, 8] (fun v x wr => ∃ (o : List M.Bl) (i : Nat), x = .int .i64 i ∧ Hid (M.split k n t = o ++ M.split k n (t.drop i)) ∧ i ≤ y.size + 64 ∧ o.length ≤ i ∧ wr.ownsRow W1.heap.size 46 4 v o.length (cBl o) ∧ G W1 wr) (fun _ x _ => y.size - (intOf x).toNat)
  case atStart => exact ⟨[], 0, rfl, rfl, by omega, by simp, World.ownsRow_nil _ _ _ _, (by repeat' (first | (with_reducible exact G.refl _) | (with_reducible assumption) | (with_reducible refine G.alloc ?_ _) | (with_reducible refine G.drew ?_) | (with_reducible refine G.drewN ?_ _) | (refine G.setCell ?_ (by first | (simp <;> done) | (simp <;> omega)) _) | (with_reducible refine G.trans ?_ (by with_reducible assumption))))⟩
  case round =>
    obtain ⟨o, i, rfl, HSP, hi, hol, hown, hG⟩ := hrel
    have hGw : G w wr := hG1.trans hG
    obtain ⟨k9, kf, k0, k1, k2, k3, k4, k5⟩ := row6 ((hG.heap (lt_of_block hb1)).trans hb1)
    by_cases hlt : i < y.size
    · have htt : t.drop i ≠ [] := by
        intro h
        have := congrArg List.length h
        rw [List.length_drop, ← HY.out, ← bs_size] at this
        simp at this; omega
      obtain ⟨m, hm⟩ : ∃ m, min (i + n) y.size = m := ⟨_, rfl⟩
      have hmi : min ((i : Int) + n) (y.size : Int) = (m : Int) := by omega
      obtain ⟨ya, hya⟩ : ∃ ya, y.extract i m = ya := ⟨_, rfl⟩
      have hbya : bs ya = (t.drop i).take n := by
        rw [← hya, bs_extract, HY.out]
        rcases Nat.le_total (i + n) y.size with h | h
        · rw [show m - i = n by omega]
        · rw [List.take_of_length_le (by rw [List.length_drop, ← HY.out, ← bs_size]; omega), List.take_of_length_le (by rw [List.length_drop, ← HY.out, ← bs_size]; omega)]
      have hyaz : ya.size ≤ 64 := by rw [← hya, ByteArray.size_extract]; omega
      obtain ⟨p, hp⟩ : ∃ p, M.mkBl k 0 ((t.drop i).take n) = p := ⟨_, rfl⟩
      have HSP2 : Hid (M.split k n t = (o ++ [p]) ++ M.split k n (t.drop (i + n))) := by show _ = _; rw [HSP.out, M.split_cons k n _ htt (by omega), hp, List.drop_drop]; simp
      have HYA := Lib.hid hbya
      have HP := Lib.hid hp
      have hm1 : i ≤ m := by omega
      have hm2 : m ≤ y.size := by omega
      have hj1 : (m : Int) ≤ y.size := by omega
      have hj0 : (0 : Int) ≤ (i : Int) := by omega
      have hj2 : (i : Int) ≤ (m : Int) := by omega
      have hx1 : y.extract (i : Int).toNat (m : Int).toNat = ya := by rw [Int.toNat_natCast, Int.toNat_natCast]; exact hya
      have hw1 : IntKind.i64.wrap ((i : Int) + n) = (i : Int) + n := IntWalk.i64_in _ ⟨by omega, by omega⟩
      clear htt hbya hp hm
      go_wp2
      have hsr := hGw.size
      have hsr1 := hG.size
      go_region_held3 (fun w' => w.heap.size < w'.heap.size ∧ w'.cell? ⟨w.heap.size, 0, none⟩ = some (.int .i64 k.s.ord) ∧ w'.cell? ⟨w.heap.size, 1, none⟩ = some (.int .i64 k.s.lit) ∧ w'.cell? ⟨w.heap.size, 2, none⟩ = some (.int .i64 k.s.most) ∧ w'.cell? ⟨w.heap.size, 3, none⟩ = some (.slice A k.ps.length c) ∧ w'.cell? ⟨w.heap.size, 4, none⟩ = some (.int .i64 k.base) ∧ w'.cell? ⟨w.heap.size, 5, none⟩ = some (.int .i64 k.last)) (first | exact hS9 | exact held6 (by repeat' (first | (with_reducible exact G.refl _) | (with_reducible assumption) | (with_reducible refine G.alloc ?_ _) | (with_reducible refine G.drew ?_) | (with_reducible refine G.drewN ?_ _) | (refine G.setCell ?_ (by first | (simp <;> done) | (simp <;> omega)) _) | (with_reducible refine G.trans ?_ (by with_reducible assumption)))) ⟨k9, k0, k1, k2, k3, k4, k5⟩) (first | (refine step_fn ?_ 46 #[.tmp 17, .tmp 26] #[40, 9] ?_ #[knV k A c, .string ya] ?_ cf_makeBlock ?_; exact rfl; exact rfl; (simp only [List.map_toArray, List.map_cons, List.map_nil, Act.eval]; rfl); refine (v_makeBlock k hk A c _ (HR.out.g (by repeat' (first | (with_reducible exact G.refl _) | (with_reducible assumption) | (with_reducible refine G.alloc ?_ _) | (with_reducible refine G.drew ?_) | (with_reducible refine G.drewN ?_ _) | (refine G.setCell ?_ (by first | (simp <;> done) | (simp <;> omega)) _) | (with_reducible refine G.trans ?_ (by with_reducible assumption))))) (fun a ha => by have := HA.out a ha; (try simp only [World.size_drew]); omega) ((t.drop i).take n) ya HYA.out hyaz).mono ?_; rintro e wA ⟨⟨p', hp', rfl⟩, h2⟩; rw [HP.out] at hp'; rw [hp']; clear hp'; have hsA := h2.size; (try simp only [World.size_drew, World.size_alloc] at hsA); have hownA := own_g (w' := wA) hown (by repeat' (first | (with_reducible exact G.refl _) | (with_reducible assumption) | (with_reducible refine G.alloc ?_ _) | (with_reducible refine G.drew ?_) | (with_reducible refine G.drewN ?_ _) | (refine G.setCell ?_ (by first | (simp <;> done) | (simp <;> omega)) _) | (with_reducible refine G.trans ?_ (by with_reducible assumption)))); refine ⟨_, rfl, ?_⟩) | (refine step_app 31 31 Tryz.underlying31 block_info (by rfl) (by omega) (by rfl) (.tmp 16) (.tmp 28) (by rfl) W1.heap.size _ o.length (cBl o) (by rfl) (hownA.alloc _) _ 1 (cBl [p]) (by rfl) (src_bl _ _ p (heap_alloc_new wA _)) (by omega) (by simp <;> omega) ?_; intro v1 w1 hown1 hg1 hat1; have hG9 := G.grown (a := W1) (b := wA.alloc _) ((by repeat' (first | (with_reducible exact G.refl _) | (with_reducible assumption) | (with_reducible refine G.alloc ?_ _) | (with_reducible refine G.drew ?_) | (with_reducible refine G.drewN ?_ _) | (refine G.setCell ?_ (by first | (simp <;> done) | (simp <;> omega)) _) | (with_reducible refine G.trans ?_ (by with_reducible assumption))))) hg1 (fun g h => own_base hown h); have hS8 := held6 (w := wr) (w' := wA.alloc (.cells #[.int .i64 p.num, .bool p.raw, .int .i64 p.size, S p.body] 46)) ((by repeat' (first | (with_reducible exact G.refl _) | (with_reducible assumption) | (with_reducible refine G.alloc ?_ _) | (with_reducible refine G.drew ?_) | (with_reducible refine G.drewN ?_ _) | (refine G.setCell ?_ (by first | (simp <;> done) | (simp <;> omega)) _) | (with_reducible refine G.trans ?_ (by with_reducible assumption))))) ⟨k9, k0, k1, k2, k3, k4, k5⟩; have hS9 := held6g hg1 (fun e => by have := own_base hown e; have := lt_of_block hb1; omega) hS8) | fail)
      all_goals
        go_wp2
        go_roundw
        case rel => exact ⟨o ++ [p], i + n, by go_num, HSP2.out, by omega, by simp; omega, by rw [cBl_append, List.length_append]; exact hown1, hG9⟩
        case measure => simp [intOf]; omega
    · have hdn : t.drop i = [] := by apply List.drop_of_length_le; rw [← HY.out, ← bs_size]; omega
      have HO : Hid (M.split k n t = o) := by show _ = _; rw [HSP.out, hdn, M.split_nil]; simp
      clear hdn
      obtain ⟨A1, c1, rfl⟩ := own_form hown
      go_wp2
      go_ret
      rw [HO.out]
      exact ⟨⟨A1, c1, rfl, own_mono hown hG1.size⟩, (by repeat' (first | (with_reducible exact G.refl _) | (with_reducible assumption) | (with_reducible refine G.alloc ?_ _) | (with_reducible refine G.drew ?_) | (with_reducible refine G.drewN ?_ _) | (refine G.setCell ?_ (by first | (simp <;> done) | (simp <;> omega)) _) | (with_reducible refine G.trans ?_ (by with_reducible assumption))))⟩
end
end Go.Proofs.YtlaijbkonapdbaaGreat

namespace Go.Proofs.YtlaijbkonapdbaaGreat
open Go.RowKit
attribute [local go_sem] grow_cell grow_frozen conv_one conv_two conv_one_at conv_181
theorem cf_twoBytes : ∀ args w, (callFunc 48 args).run Tryz.prog w = .ok (.enter 48 args) w := by intro args w; go_simp
theorem cf_SumOf_impl2 : ∀ args w, (callFunc 49 args).run Tryz.prog w = .ok (.enter 49 args) w := by intro args w; go_simp
section
variable (k : M.Kn) (hk : k.V) (A : Option Addr) (c : Nat) (w : World) (hr : Rds w 2 A k.ps.length (cP k.ps)) (hA : ∀ a, A = some a → a.block < w.heap.size)
include hk hr hA
set_option maxHeartbeats 2000000 in
theorem v_newBlocks (n : Int) (hn : 1 ≤ n ∧ n ≤ 64) (y : ByteArray) (hyz : y.size ≤ 2000) (hyn : (y.size : Int) ≤ n * 40) :
    Calls Tryz.prog 16 #[knV k A c, .string y, .int .i64 n] w fun e w' => (∃ A c, e = .returned (.tuple #[.slice A (M.split k n.toNat (bs y)).length c, .bool true]) ∧ w'.ownsRow w.heap.size 46 4 (.slice A (M.split k n.toNat (bs y)).length c) (M.split k n.toNat (bs y)).length (cBl (M.split k n.toNat (bs y)))) ∧ G w w' := by
  obtain ⟨m, rfl⟩ : ∃ m : Nat, n = m := ⟨n.toNat, by omega⟩
  rw [Int.toNat_natCast]
  obtain ⟨h1, h2⟩ := hn
  have HR := Lib.hid hr
  have HA := Lib.hid hA
  have HS : Hid (decide ((1 : Int) ≤ (m : Int) ∧ (m : Int) ≤ 64) = true) := decide_eq_true ⟨h1, h2⟩
  have h3 : (y.size : Int) ≤ 40 * m := by omega
  obtain ⟨sp, hsp⟩ : ∃ sp, M.split k m (bs y) = sp := ⟨_, rfl⟩
  rw [hsp]
  have HSP := Lib.hid hsp
  clear hr hA hsp hyn
  go_enter Tryz.func16, Tryz.ntmps16
  go_wp2_with (first | (go_at_call 28; refine (v_sizeValid _ _).mono ?_; rintro e w' ⟨rfl, rfl⟩; rw [HS.out]) | (go_at_call 29; refine (v_makeBlocks k hk A c _ (HR.out.g (by repeat' (first | (with_reducible exact G.refl _) | (with_reducible assumption) | (with_reducible refine G.alloc ?_ _) | (with_reducible refine G.drew ?_) | (with_reducible refine G.drewN ?_ _) | (refine G.setCell ?_ (by first | (simp <;> done) | (simp <;> omega)) _) | (with_reducible refine G.trans ?_ (by with_reducible assumption))))) (fun a ha => by have := HA.out a ha; simp; omega) m (by omega) (by omega) (bs y) y rfl hyz).mono ?_; rintro e w' ⟨⟨A1, c1, rfl, hR1⟩, h5⟩; rw [HSP.out] at hR1 ⊢) | fail)
  go_ret2
  exact ⟨⟨A1, c1, rfl, own_mono hR1 (by simp)⟩, (by repeat' (first | (with_reducible exact G.refl _) | (with_reducible assumption) | (with_reducible refine G.alloc ?_ _) | (with_reducible refine G.drew ?_) | (with_reducible refine G.drewN ?_ _) | (refine G.setCell ?_ (by first | (simp <;> done) | (simp <;> omega)) _) | (with_reducible refine G.trans ?_ (by with_reducible assumption))))⟩
omit hk hr hA in
set_option maxHeartbeats 2000000 in
theorem v_newBlocks_no (n : Int) (y : ByteArray) (hyz : y.size ≤ 100000000) (hno : ¬ ((1 ≤ n ∧ n ≤ 64) ∧ y.size ≤ 2000 ∧ (y.size : Int) ≤ n * 40)) :
    Calls Tryz.prog 16 #[knV k A c, .string y, .int .i64 n] w fun e w' => e = .returned (.tuple #[.slice none 0 0, .bool false]) ∧ G w w' := by
  by_cases h1 : 1 ≤ n ∧ n ≤ 64
  · have HS : Hid (decide (1 ≤ n ∧ n ≤ 64) = true) := decide_eq_true h1
    obtain ⟨h2, h3⟩ := h1
    by_cases h4 : y.size ≤ 2000
    · have h5 : ¬ (y.size : Int) ≤ 40 * n := fun h => hno ⟨⟨h2, h3⟩, h4, by omega⟩
      clear hno
      go_enter Tryz.func16, Tryz.ntmps16
      go_wp2_with (first | (go_at_call 28; refine (v_sizeValid _ _).mono ?_; rintro e w' ⟨rfl, rfl⟩; rw [HS.out]) | fail)
      go_ret2
      exact ⟨rfl, (by repeat' (first | (with_reducible exact G.refl _) | (with_reducible assumption) | (with_reducible refine G.alloc ?_ _) | (with_reducible refine G.drew ?_) | (with_reducible refine G.drewN ?_ _) | (refine G.setCell ?_ (by first | (simp <;> done) | (simp <;> omega)) _) | (with_reducible refine G.trans ?_ (by with_reducible assumption))))⟩
    · clear hno
      go_enter Tryz.func16, Tryz.ntmps16
      go_wp2_with (first | (go_at_call 28; refine (v_sizeValid _ _).mono ?_; rintro e w' ⟨rfl, rfl⟩; rw [HS.out]) | fail)
      go_ret2
      exact ⟨rfl, (by repeat' (first | (with_reducible exact G.refl _) | (with_reducible assumption) | (with_reducible refine G.alloc ?_ _) | (with_reducible refine G.drew ?_) | (with_reducible refine G.drewN ?_ _) | (refine G.setCell ?_ (by first | (simp <;> done) | (simp <;> omega)) _) | (with_reducible refine G.trans ?_ (by with_reducible assumption))))⟩
  · have HS : Hid (decide (1 ≤ n ∧ n ≤ 64) = false) := decide_eq_false h1
    clear hno h1
    go_enter Tryz.func16, Tryz.ntmps16
    go_wp2_with (first | (go_at_call 28; refine (v_sizeValid _ _).mono ?_; rintro e w' ⟨rfl, rfl⟩; rw [HS.out]) | fail)
    go_ret2
    exact ⟨rfl, (by repeat' (first | (with_reducible exact G.refl _) | (with_reducible assumption) | (with_reducible refine G.alloc ?_ _) | (with_reducible refine G.drew ?_) | (with_reducible refine G.drewN ?_ _) | (refine G.setCell ?_ (by first | (simp <;> done) | (simp <;> omega)) _) | (with_reducible refine G.trans ?_ (by with_reducible assumption))))⟩
end
section
variable (n z : Nat) (r : Bool) (y : ByteArray) (hn : n < 65536) (hz : z < 65536) (hy : y.size < 65536) (w : World)
include hn hz hy
set_option maxRecDepth 4000 in
set_option maxHeartbeats 4000000 in
theorem v_FormatBlock (hq : M.Bl.form ⟨n, r, z, bs y⟩ = true) : Calls Tryz.prog 31 #[.agg #[.int .i64 n, .bool r, .int .i64 z, .string y]] w fun e w' => e = .returned (.tuple #[S (M.Bl.text ⟨n, r, z, bs y⟩), .bool true]) ∧ G w w' := by
  have HQ := Lib.hid hq
  have HI : Hid (M.Bl.inner ⟨n, r, z, bs y⟩ = (if r then 0 else 1) :: (M.two n ++ M.two z ++ M.two y.size ++ bs y)) := by show _ = _; rw [bs_size]; rfl
  have HX : Hid (M.Bl.text ⟨n, r, z, bs y⟩ = 181 :: (M.Bl.inner ⟨n, r, z, bs y⟩ ++ M.two (M.sumOf (M.Bl.inner ⟨n, r, z, bs y⟩)))) := rfl
  have hs := M.sumOf_lt (M.Bl.inner ⟨n, r, z, bs y⟩)
  generalize M.Bl.inner ⟨n, r, z, bs y⟩ = inn at HI HX hs
  generalize M.Bl.text ⟨n, r, z, bs y⟩ = txt at *
  have HS := Lib.hid hs
  have HN := Lib.hid hn
  have HZ := Lib.hid hz
  have HY := Lib.hid hy
  have hy : y.size ≤ 65535 := by omega
  obtain ⟨y1, h1⟩ : ∃ b : ByteArray, b = ⟨[(if r then 0 else 1 : UInt8)].toArray⟩ := ⟨_, rfl⟩
  obtain ⟨y2, h2⟩ : ∃ b : ByteArray, b = ⟨(M.two n).toArray⟩ := ⟨_, rfl⟩
  obtain ⟨y3, h3⟩ : ∃ b : ByteArray, b = ⟨(M.two z).toArray⟩ := ⟨_, rfl⟩
  obtain ⟨y4, h4⟩ : ∃ b : ByteArray, b = ⟨(M.two y.size).toArray⟩ := ⟨_, rfl⟩
  obtain ⟨y5, h5⟩ : ∃ b : ByteArray, b = ⟨(M.two (M.sumOf inn)).toArray⟩ := ⟨_, rfl⟩
  have Y2 : Hid (S (M.two n) = .string y2) := by show _ = _; rw [h2]; rfl
  have Y3 : Hid (S (M.two z) = .string y3) := by show _ = _; rw [h3]; rfl
  have Y4 : Hid (S (M.two y.size) = .string y4) := by show _ = _; rw [h4]; rfl
  have Y5 : Hid (S (M.two (M.sumOf inn)) = .string y5) := by show _ = _; rw [h5]; rfl
  have T2 : Hid (∀ W : World, Calls Tryz.prog 48 #[.int .i64 n] W fun e w' => e = .returned (.string y2) ∧ G W w') := by intro W; have := v_twoBytes n hn W; rw [Y2.out] at this; exact this
  have T3 : Hid (∀ W : World, Calls Tryz.prog 48 #[.int .i64 z] W fun e w' => e = .returned (.string y3) ∧ G W w') := by intro W; have := v_twoBytes z hz W; rw [Y3.out] at this; exact this
  have T4 : Hid (∀ W : World, Calls Tryz.prog 48 #[.int .i64 y.size] W fun e w' => e = .returned (.string y4) ∧ G W w') := by intro W; have := v_twoBytes y.size HY.out W; rw [Y4.out] at this; exact this
  have HIN : Hid (bs (y1 ++ y2 ++ y3 ++ y4 ++ y) = inn) := by show _ = _; rw [HI.out, h1, h2, h3, h4]; simp [bs]
  have hs1 : y1.size = 1 := by rw [h1]; rfl
  have hs2 : y2.size ≤ 2 := by rw [h2]; exact Nat.le_refl _
  have hs3 : y3.size ≤ 2 := by rw [h3]; exact Nat.le_refl _
  have hs4 : y4.size ≤ 2 := by rw [h4]; exact Nat.le_refl _
  have hs5 : y5.size ≤ 2 := by rw [h5]; exact Nat.le_refl _
  have hsz : (y1 ++ y2 ++ y3 ++ y4 ++ y).size ≤ 100000000 := by simp [ByteArray.size_append]; omega
  have HSZ := Lib.hid hsz
  have H5 := Lib.hid h5
  have H1 := Lib.hid h1
  clear h1 h2 h3 h4 h5 hs hn hz hsz hq
  cases r
  · go_enter Tryz.func31, Tryz.ntmps31
    go_upto_region 6 with (first | (go_at_call 47; refine (v_blockValid n z false y HN.out HZ.out HY.out _ true HQ.out).mono ?_; rintro e w' ⟨rfl, h9⟩; obtain ⟨hch9, hfh9⟩ := gcell h9; have hb := row4 ((h9.heap (k := w.heap.size) (by simp)).trans (alloc_at _ _ _ rfl)); obtain ⟨k9, kf, k0, k1, k2, k3⟩ := hb) | fail)
    rename World => w3
    have hG3 : G w w3 := (by repeat' (first | (with_reducible exact G.refl _) | (with_reducible assumption) | (with_reducible refine G.alloc ?_ _) | (with_reducible refine G.drew ?_) | (with_reducible refine G.drewN ?_ _) | (refine G.setCell ?_ (by first | (simp <;> done) | (simp <;> omega)) _) | (with_reducible refine G.trans ?_ (by with_reducible assumption))))
    rw [show (⟨#[1]⟩ : ByteArray) = y1 from H1.out.symm]
    clear kf hch9 hfh9 h9
    have hq1 : ¬ 9223372036854775807 < y1.size + y2.size := by omega
    have hq2 : ¬ 9223372036854775807 < y1.size + y2.size + y3.size := by omega
    have hq3 : ¬ 9223372036854775807 < y1.size + y2.size + y3.size + y4.size := by omega
    have hq4 : ¬ 9223372036854775807 < y1.size + y2.size + y3.size + y4.size + y.size := by omega
    refine wp_region_quiet_below (by kernel_rfl) (by kernel_rfl) ?_
    repeat (first | go_big_quiet_step ((first | (go_at_call 48; with_reducible exact qcall (T2.out _)) | (go_at_call 48; with_reducible exact qcall (T3.out _)) | (go_at_call 48; with_reducible exact qcall (T4.out _)))) | quiet_step ((first | (go_at_call 48; with_reducible exact qcall (T2.out _)) | (go_at_call 48; with_reducible exact qcall (T3.out _)) | (go_at_call 48; with_reducible exact qcall (T4.out _)))))
    refine wpQuiet_nil ?_
    intro w' hw'
    have h6 := G.of_regrown hw'
    clear hw'
    obtain ⟨hch6, hfh6⟩ := gcell h6
    go_upto_region 7 with fail
    rename World => w9
    have hG9 : G w w9 := (by repeat' (first | (with_reducible exact G.refl _) | (with_reducible assumption) | (with_reducible refine G.alloc ?_ _) | (with_reducible refine G.drew ?_) | (with_reducible refine G.drewN ?_ _) | (refine G.setCell ?_ (by first | (simp <;> done) | (simp <;> omega)) _) | (with_reducible refine G.trans ?_ (by with_reducible assumption))))
    obtain ⟨yi, hyi⟩ : ∃ b, b = y1 ++ y2 ++ y3 ++ y4 ++ y := ⟨_, rfl⟩
    rw [← hyi]
    have HI2 : Hid (bs yi = inn) := by show _ = _; rw [hyi]; exact HIN.out
    have hzi : yi.size ≤ 70000 := by rw [hyi]; simp [ByteArray.size_append]; omega
    clear hyi
    have hq5 : ¬ 9223372036854775807 < 1 + yi.size := by omega
    have hq6 : ¬ 9223372036854775807 < 1 + yi.size + y5.size := by omega
    go_region_law (first | (refine step_fn ?_ 49 #[.tmp 32] #[9] ?_ #[.string yi] ?_ cf_SumOf_impl2 ?_; exact rfl; exact rfl; (simp only [List.map_toArray, List.map_cons, List.map_nil, Act.eval]; rfl); refine (v_SumOf_impl inn yi HI2.out (by omega) _).mono ?_; rintro e w' ⟨rfl, rfl⟩; refine ⟨_, rfl, ?_⟩) | (refine step_fn ?_ 48 #[.tmp 33] #[3] ?_ #[.int .i64 (M.sumOf inn)] ?_ cf_twoBytes ?_; exact rfl; exact rfl; (simp only [List.map_toArray, List.map_cons, List.map_nil, Act.eval]; rfl); refine (v_twoBytes (M.sumOf inn) HS.out _).mono ?_; rintro e w' ⟨rfl, h2⟩; rw [Y5.out]; have hc2 := (gcell h2).1; refine ⟨_, rfl, ?_⟩) | fail)
    all_goals
      go_wp2
      go_ret2
      refine ⟨?_, (by repeat' (first | (with_reducible exact G.refl _) | (with_reducible assumption) | (with_reducible refine G.alloc ?_ _) | (with_reducible refine G.drew ?_) | (with_reducible refine G.drewN ?_ _) | (refine G.setCell ?_ (by first | (simp <;> done) | (simp <;> omega)) _) | (with_reducible refine G.trans ?_ (by with_reducible assumption))))⟩
      have e : bs (⟨#[181]⟩ ++ yi ++ y5) = txt := by
        rw [HX.out]; simp only [bs_append, HI2.out, H5.out]; simp [bs]
      rw [← bs_eq e]; rfl
  · go_enter Tryz.func31, Tryz.ntmps31
    go_upto_region 6 with (first | (go_at_call 47; refine (v_blockValid n z true y HN.out HZ.out HY.out _ true HQ.out).mono ?_; rintro e w' ⟨rfl, h9⟩; obtain ⟨hch9, hfh9⟩ := gcell h9; have hb := row4 ((h9.heap (k := w.heap.size) (by simp)).trans (alloc_at _ _ _ rfl)); obtain ⟨k9, kf, k0, k1, k2, k3⟩ := hb) | fail)
    rename World => w3
    have hG3 : G w w3 := (by repeat' (first | (with_reducible exact G.refl _) | (with_reducible assumption) | (with_reducible refine G.alloc ?_ _) | (with_reducible refine G.drew ?_) | (with_reducible refine G.drewN ?_ _) | (refine G.setCell ?_ (by first | (simp <;> done) | (simp <;> omega)) _) | (with_reducible refine G.trans ?_ (by with_reducible assumption))))
    rw [show (⟨#[0]⟩ : ByteArray) = y1 from H1.out.symm]
    clear kf hch9 hfh9 h9
    have hq1 : ¬ 9223372036854775807 < y1.size + y2.size := by omega
    have hq2 : ¬ 9223372036854775807 < y1.size + y2.size + y3.size := by omega
    have hq3 : ¬ 9223372036854775807 < y1.size + y2.size + y3.size + y4.size := by omega
    have hq4 : ¬ 9223372036854775807 < y1.size + y2.size + y3.size + y4.size + y.size := by omega
    refine wp_region_quiet_below (by kernel_rfl) (by kernel_rfl) ?_
    repeat (first | go_big_quiet_step ((first | (go_at_call 48; with_reducible exact qcall (T2.out _)) | (go_at_call 48; with_reducible exact qcall (T3.out _)) | (go_at_call 48; with_reducible exact qcall (T4.out _)))) | quiet_step ((first | (go_at_call 48; with_reducible exact qcall (T2.out _)) | (go_at_call 48; with_reducible exact qcall (T3.out _)) | (go_at_call 48; with_reducible exact qcall (T4.out _)))))
    refine wpQuiet_nil ?_
    intro w' hw'
    have h6 := G.of_regrown hw'
    clear hw'
    obtain ⟨hch6, hfh6⟩ := gcell h6
    go_upto_region 7 with fail
    rename World => w9
    have hG9 : G w w9 := (by repeat' (first | (with_reducible exact G.refl _) | (with_reducible assumption) | (with_reducible refine G.alloc ?_ _) | (with_reducible refine G.drew ?_) | (with_reducible refine G.drewN ?_ _) | (refine G.setCell ?_ (by first | (simp <;> done) | (simp <;> omega)) _) | (with_reducible refine G.trans ?_ (by with_reducible assumption))))
    obtain ⟨yi, hyi⟩ : ∃ b, b = y1 ++ y2 ++ y3 ++ y4 ++ y := ⟨_, rfl⟩
    rw [← hyi]
    have HI2 : Hid (bs yi = inn) := by show _ = _; rw [hyi]; exact HIN.out
    have hzi : yi.size ≤ 70000 := by rw [hyi]; simp [ByteArray.size_append]; omega
    clear hyi
    have hq5 : ¬ 9223372036854775807 < 1 + yi.size := by omega
    have hq6 : ¬ 9223372036854775807 < 1 + yi.size + y5.size := by omega
    go_region_law (first | (refine step_fn ?_ 49 #[.tmp 32] #[9] ?_ #[.string yi] ?_ cf_SumOf_impl2 ?_; exact rfl; exact rfl; (simp only [List.map_toArray, List.map_cons, List.map_nil, Act.eval]; rfl); refine (v_SumOf_impl inn yi HI2.out (by omega) _).mono ?_; rintro e w' ⟨rfl, rfl⟩; refine ⟨_, rfl, ?_⟩) | (refine step_fn ?_ 48 #[.tmp 33] #[3] ?_ #[.int .i64 (M.sumOf inn)] ?_ cf_twoBytes ?_; exact rfl; exact rfl; (simp only [List.map_toArray, List.map_cons, List.map_nil, Act.eval]; rfl); refine (v_twoBytes (M.sumOf inn) HS.out _).mono ?_; rintro e w' ⟨rfl, h2⟩; rw [Y5.out]; have hc2 := (gcell h2).1; refine ⟨_, rfl, ?_⟩) | fail)
    all_goals
      go_wp2
      go_ret2
      refine ⟨?_, (by repeat' (first | (with_reducible exact G.refl _) | (with_reducible assumption) | (with_reducible refine G.alloc ?_ _) | (with_reducible refine G.drew ?_) | (with_reducible refine G.drewN ?_ _) | (refine G.setCell ?_ (by first | (simp <;> done) | (simp <;> omega)) _) | (with_reducible refine G.trans ?_ (by with_reducible assumption))))⟩
      have e : bs (⟨#[181]⟩ ++ yi ++ y5) = txt := by
        rw [HX.out]; simp only [bs_append, HI2.out, H5.out]; simp [bs]
      rw [← bs_eq e]; rfl
end
end Go.Proofs.YtlaijbkonapdbaaGreat

namespace Go.Proofs.YtlaijbkonapdbaaGreat
open Go.RowKit
attribute [local go_sem] grow_cell grow_frozen conv_one conv_two
/-! ## the writer of strings -/
theorem builder_info : (Tryz.prog.info? 62).map (·.size) = some 2 := by kernel_rfl
theorem builder_lies : liesAt Tryz.prog Tryz.prog.depth 62 (2 / Tryz.prog.cellsOf 62) 0 62 1 = true := by kernel_rfl
set_option maxHeartbeats 1000000 in
set_option maxRecDepth 100000 in
theorem v_copyCheck_used (b : Nat) (w : World) (h0 : w.cell? ⟨b, 0, none⟩ = some (.pointer (some ⟨b, 0, none⟩))) :
    Calls Tryz.prog 50 #[.pointer (some ⟨b, 0, none⟩)] w fun e w' => e = .returned (.tuple #[]) ∧ w' = w := by
  obtain ⟨j, hj, _⟩ := Option.map_eq_some_iff.1 builder_info
  go_enter Tryz.func50, Tryz.ntmps50
  go_wp2
  rw [Lib.run_neq_ptr_same w _ Tryz.underlying59 hj]
  go_wp2
  go_end0
  exact ⟨rfl, rfl⟩
set_option maxHeartbeats 1000000 in
set_option maxRecDepth 100000 in
theorem v_copyCheck_fresh (b : Nat) (w : World) (h0 : w.cell? ⟨b, 0, none⟩ = some (.pointer none)) (hsh : w.shape? b = some (62, 2)) (hfz : w.frozen? ⟨b, 0, none⟩ = false) :
    Calls Tryz.prog 50 #[.pointer (some ⟨b, 0, none⟩)] w fun e w' => e = .returned (.tuple #[]) ∧ w' = w.setCell ⟨b, 0, none⟩ (.pointer (some ⟨b, 0, none⟩)) := by
  obtain ⟨j, hj, hjs⟩ := Option.map_eq_some_iff.1 builder_info
  go_enter Tryz.func50, Tryz.ntmps50
  go_wp2
  rw [Lib.run_to_unsafe w ⟨b, 0, none⟩ Tryz.underlying59 Tryz.underlying90 hj (by rw [hjs]; decide) hsh (Nat.zero_lt_succ 1)]
  simp only [Result.andThen]
  rw [Oper.upon_value]
  go_wp2
  rw [run_callFunc_extern Tryz.func67 (by kernel_rfl) (by kernel_rfl) (by kernel_rfl) (e := Extern.AbiNoEscape.same) (by kernel_rfl)]
  rw [Lib.run_noEscape]
  simp only [Result.andThen]
  rw [Oper.upon_value]
  go_wp2
  rw [Lib.run_from_unsafe w ⟨b, 0, none⟩ Tryz.underlying90 Tryz.underlying59 hj hsh builder_lies]
  simp only [Result.andThen]
  rw [Oper.upon_value]
  go_wp2
  go_end0
  exact ⟨rfl, rfl⟩
abbrev BAt (B b : Nat) (l : M.Bytes) (w : World) : Prop := Lib.BuilderAt 62 5 B b (.pointer (some ⟨b, 0, none⟩)) (Lib.byteCells l) w
abbrev BIs (B b : Nat) (l : M.Bytes) (w : World) : Prop := Lib.IsBuilder 62 5 B b (Lib.byteCells l) w
theorem v_copyCheck (B b : Nat) (l : M.Bytes) (w : World) (h : BIs B b l w) :
    Calls Tryz.prog 50 #[.pointer (some ⟨b, 0, none⟩)] w fun e w' => e = .returned (.tuple #[]) ∧ BAt B b l w' ∧ Below B w w' := by
  rcases h with h | h
  · refine (v_copyCheck_fresh b w h.cell0 h.shape h.frozen0).mono ?_
    rintro e w' ⟨rfl, rfl⟩
    exact ⟨rfl, h.used _, (Below.refl B w).setCell (p := ⟨b, 0, none⟩) h.1 _⟩
  · refine (v_copyCheck_used b w h.cell0).mono ?_
    rintro e w' ⟨rfl, rfl⟩
    exact ⟨rfl, h, Below.refl B _⟩
theorem byteCells_cB (l : M.Bytes) : Lib.byteCells l = cB l := rfl
set_option maxHeartbeats 2000000 in
set_option maxRecDepth 100000 in
theorem v_WriteString (B b : Nat) (l : M.Bytes) (s : ByteArray) (w : World) (h : BIs B b l w) (hl : l.length + s.size ≤ 100000000) (hBw : B ≤ w.heap.size) :
    Calls Tryz.prog 32 #[.pointer (some ⟨b, 0, none⟩), .string s] w fun e w' => e = .returned (.tuple #[.int .i64 s.size, .nilIface]) ∧ BAt B b (l ++ bs s) w' ∧ Below B w w' := by
  have H := Lib.hid h
  clear h
  go_enter Tryz.func32, Tryz.ntmps32
  go_wp2_with (first | (go_at_call 50; refine (v_copyCheck B b l _ H.out).mono ?_; rintro e w1 ⟨rfl, h1, hb1⟩; obtain ⟨hB, v, hbk, hown, hne⟩ := h1; have hlt := lt_of_block hbk; have c0 : w1.cell? ⟨b, 0, none⟩ = some (.pointer (some ⟨b, 0, none⟩)) := (by rw [Lib.cell_of_heap hbk]; rfl); have c1 : w1.cell? ⟨b, 1, none⟩ = some v := (by rw [Lib.cell_of_heap hbk]; rfl); rw [byteCells_cB, cB_len] at hown; have hs1 := hb1.size) | (refine app_str rfl (.tmp 12) (.tmp 13) (by rfl) B _ l.length _ (by rfl) hown s (by rfl) (by omega) (by omega) ?_; intro v2 w2 hown2 hg2 hat2; obtain ⟨A2, c2, rfl⟩ := own_form hown2; have hb2 : w2.heap[b]? = some (.cells #[.pointer (some ⟨b, 0, none⟩), v] 62 (0, 0)) := (by rw [hg2.block b hlt (fun e => hne e.symm)]; exact hbk); have d0 : w2.cell? ⟨b, 0, none⟩ = some (.pointer (some ⟨b, 0, none⟩)) := (by rw [Lib.cell_of_heap hb2]; rfl); have d1 : w2.cell? ⟨b, 1, none⟩ = some v := (by rw [Lib.cell_of_heap hb2]; rfl); have f1 : w2.frozen? ⟨b, 1, none⟩ = false := Lib.frozen_of_heap hb2 1) | fail)
  go_ret2
  refine ⟨rfl, ?_, ?_⟩
  · exact Lib.BuilderAt.put (T := 62) (e := 5) hB hb2 (bs' := Lib.byteCells (l ++ bs s)) (by rw [byteCells_cB, cB_len, cB_append, List.length_append, ← bs_size]; exact hown2) (by decide)
  · exact (hb1.grown hg2 (by omega) (fun k hk => (hown.lt k hk).1)).setCell (p := ⟨b, 1, none⟩) hB _
theorem v_BString (B b : Nat) (l : M.Bytes) (w : World) (h : BIs B b l w) (hBw : B ≤ w.heap.size) :
    Calls Tryz.prog 33 #[.pointer (some ⟨b, 0, none⟩)] w fun e w' => e = .returned (S l) ∧ Below B w w' := Tryz.Builder_String_any B b l w h hBw
end Go.Proofs.YtlaijbkonapdbaaGreat
