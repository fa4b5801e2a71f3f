/-
  FnExactAppendDataSaid is proved: for every input FnExactAppendData returns true, and each argument reads afterwards as it read before; no conditions. Part 10 of 25.
-/
import Derived.Test.YtlaijbkonapdbaaGreatA02
import Derived.Test.YtlaijbkonapdbaaGreatA09

set_option linter.all false

namespace Go.Proofs.YtlaijbkonapdbaaGreat
open Go.RowKit
open Go.PlainAid (bt get_bt bt_nonneg bt_le)
attribute [local go_sem] grow_cell grow_frozen conv_one

section
variable (s : M.St) (hs : s.Ok) (d : M.Bytes) (b : ByteArray) (hb : bs b = d) (hbl : b.size ≤ 100000000) (r : Bool) (w : World)
include hs hb hbl

set_option maxHeartbeats 1000000 in
theorem v_DataFits_impl (hr : decide (b.size ≤ 2000 ∧ M.Kn.fits s.c d) = r) : Calls Tryz.prog 63 #[stV s, .string b] w fun e w' => e = .returned (.bool r) ∧ G w w' := by
  have hc := hs.c256
  have h8 := hs.lit8
  have HB := Lib.hid hb
  have HR := Lib.hid hr
  have hsz := bs_size b
  have hget := get_bt b
  have hdl : d.length = b.size := by rw [← hb, ← hsz]
  have HDL := Lib.hid hdl
  clear hb hr hsz hdl
  by_cases h : b.size ≤ 2000
  · have hr2 : Hid (decide (M.Kn.fits s.c d) = r) := by show _ = _; rw [← HR.out]; simp [h]
    go_enter Tryz.func63, Tryz.ntmps63
    go_wp2_with (first | (go_at_call 61; refine (v_SettingValid_impl s hs _).mono ?_; rintro e w' ⟨rfl, h1⟩; obtain ⟨hch1, hfh1⟩ := gcell h1; try (have hzh1 : w.heap.size < w'.heap.size := by have := h1.size; (try simp at this); omega); try (have hyh1 : w.heap.size + 1 < w'.heap.size := by have := h1.size; (try simp at this); omega)) | fail)
    have hw2 := wrap_two s.lit s.c (by omega) rfl
    go_loopw [16] (fun x wr => ∃ i : Nat, x = .int .i64 i ∧ i ≤ b.size ∧ Hid (∀ j, j < i → ∀ y, d[j]? = some y → y.toNat < s.c) ∧ SBox wr w.heap.size s ∧ G w wr) (fun x _ => b.size - (intOf x).toNat)
    case atStart => exact ⟨0, rfl, by omega, fun j hj => absurd hj (by omega), ⟨by have := h1.size; simp at this; omega, by go_cell, by go_cell, by go_cell⟩, (by repeat' (first | (with_reducible exact G.refl _) | (with_reducible assumption) | (with_reducible refine G.alloc ?_ _) | (with_reducible refine G.drew ?_) | (with_reducible refine G.drewN ?_ _) | (refine G.setCell ?_ (by first | (simp <;> done) | (simp <;> omega)) _) | (with_reducible refine G.trans ?_ (by with_reducible assumption))))⟩
    case round =>
      obtain ⟨i, rfl, hi, HI, hB, hG⟩ := hrel
      have HBX := Lib.hid hB
      obtain ⟨k9, k0, k1, k2⟩ := hB
      by_cases hlt : i < b.size
      · obtain ⟨y, hy⟩ : ∃ y, d[i]? = some y := ⟨_, List.getElem?_eq_getElem (by have := HDL.out; omega)⟩
        have hbt := bt_bs HB.out i y hy
        have hy8 := y.toNat_lt
        have HY := Lib.hid hy
        have b1 : (0 : Int) ≤ (i : Int) := by omega
        have b2 : (i : Int) < (b.size : Int) := by omega
        have hxw : IntKind.i64.wrap (y.toNat : Int) = y.toNat := IntWalk.i64_in _ ⟨by omega, by omega⟩
        clear hy
        by_cases hcmp : s.c ≤ y.toNat
        · go_wp2
          refine wp_region_quiet_below (by kernel_rfl) (by kernel_rfl) ?_
          repeat (first | go_big_quiet_step (fail) | quiet_step (fail))
          refine wpQuiet_nil ?_
          intro w' hw'
          have h2 := G.of_regrown hw'
          clear hw'
          obtain ⟨hch2, hfh2⟩ := gcell h2
          go_wp2
          go_ret
          refine ⟨ret_bool ?_, (by repeat' (first | (with_reducible exact G.refl _) | (with_reducible assumption) | (with_reducible refine G.alloc ?_ _) | (with_reducible refine G.drew ?_) | (with_reducible refine G.drewN ?_ _) | (refine G.setCell ?_ (by first | (simp <;> done) | (simp <;> omega)) _) | (with_reducible refine G.trans ?_ (by with_reducible assumption))))⟩
          rw [← hr2.out]
          symm; simp only [decide_eq_false_iff_not]
          intro hf
          have := hf y (List.mem_of_getElem? HY.out)
          omega
        · go_wp2
          refine wp_region_quiet_below (by kernel_rfl) (by kernel_rfl) ?_
          repeat (first | go_big_quiet_step (fail) | quiet_step (fail))
          refine wpQuiet_nil ?_
          intro w' hw'
          have h2 := G.of_regrown hw'
          clear hw'
          obtain ⟨hch2, hfh2⟩ := gcell h2
          go_wp2
          go_roundw
          case rel =>
            refine ⟨i + 1, by go_num, by omega, ?_, HBX.out.g (by repeat' (first | (with_reducible exact G.refl _) | (with_reducible assumption) | (with_reducible refine G.alloc ?_ _) | (with_reducible refine G.drew ?_) | (with_reducible refine G.drewN ?_ _) | (refine G.setCell ?_ (by first | (simp <;> done) | (simp <;> omega)) _) | (with_reducible refine G.trans ?_ (by with_reducible assumption)))), (by repeat' (first | (with_reducible exact G.refl _) | (with_reducible assumption) | (with_reducible refine G.alloc ?_ _) | (with_reducible refine G.drew ?_) | (with_reducible refine G.drewN ?_ _) | (refine G.setCell ?_ (by first | (simp <;> done) | (simp <;> omega)) _) | (with_reducible refine G.trans ?_ (by with_reducible assumption))))⟩
            intro j hj z hz
            rcases Nat.lt_or_ge j i with h5 | h5
            · exact HI.out j h5 z hz
            · have : j = i := by omega
              subst this
              rw [HY.out] at hz; injection hz with hz; subst hz; omega
          case measure => simp [intOf]; omega
      · go_wp2
        go_ret
        refine ⟨ret_bool ?_, (by repeat' (first | (with_reducible exact G.refl _) | (with_reducible assumption) | (with_reducible refine G.alloc ?_ _) | (with_reducible refine G.drew ?_) | (with_reducible refine G.drewN ?_ _) | (refine G.setCell ?_ (by first | (simp <;> done) | (simp <;> omega)) _) | (with_reducible refine G.trans ?_ (by with_reducible assumption))))⟩
        rw [← hr2.out]
        symm; simp only [decide_eq_true_eq]
        intro z hz
        obtain ⟨j, hj, hz2⟩ := List.getElem_of_mem hz
        exact HI.out j (by have := HDL.out; omega) z (by rw [List.getElem?_eq_getElem hj, hz2])
  · have hr2 : r = false := by rw [← HR.out]; simp [h]
    subst hr2
    clear HR
    go_enter Tryz.func63, Tryz.ntmps63
    go_wp2_with (first | (go_at_call 61; refine (v_SettingValid_impl s hs _).mono ?_; rintro e w' ⟨rfl, h1⟩; obtain ⟨hch1, hfh1⟩ := gcell h1; try (have hzh1 : w.heap.size < w'.heap.size := by have := h1.size; (try simp at this); omega); try (have hyh1 : w.heap.size + 1 < w'.heap.size := by have := h1.size; (try simp at this); omega)) | fail)
    go_ret
    exact ⟨rfl, (by repeat' (first | (with_reducible exact G.refl _) | (with_reducible assumption) | (with_reducible refine G.alloc ?_ _) | (with_reducible refine G.drew ?_) | (with_reducible refine G.drewN ?_ _) | (refine G.setCell ?_ (by first | (simp <;> done) | (simp <;> omega)) _) | (with_reducible refine G.trans ?_ (by with_reducible assumption))))⟩
end
end Go.Proofs.YtlaijbkonapdbaaGreat

namespace Go.Proofs.YtlaijbkonapdbaaGreat
open Go.RowKit
attribute [local go_sem] grow_cell grow_frozen conv_one

section
variable (k : M.Kn) (hk : k.V) (A : Option Addr) (c : Nat) (hc : k.ps.length ≤ c) (w : World) (hr : Rds w 2 A k.ps.length (cP k.ps)) (hA : ∀ a, A = some a → a.block < w.heap.size)
include hk hr hc hA

set_option maxHeartbeats 1000000 in
theorem v_Compress_spec (d : M.Bytes) (hdl : d.length ≤ 1000) (b : ByteArray) (hb : bs b = d) (r : Bool) (hr2 : decide (M.Kn.fits k.s.c d) = r) :
    Calls Tryz.prog 60 #[knV k A c, .string b] w fun e w' => e = .returned (.tuple #[if r then S (M.Kn.compress k d) else .string (ByteArray.mk #[]), .bool r]) ∧ G w w' := by
  have hbl : b.size ≤ 1000 := by rw [bs_size, hb]; exact hdl
  have HB := Lib.hid hb
  have HA := Lib.hid hA
  have HR := Lib.hid hr
  have h20 : b.size ≤ 2000 := by omega
  have HR2 : Hid (decide (b.size ≤ 2000 ∧ M.Kn.fits k.s.c d) = r) := by show _ = _; rw [← hr2]; simp [h20]
  have HR3 := Lib.hid hr2
  clear hb hA hr hr2
  cases r
  · go_enter Tryz.func60, Tryz.ntmps60
    go_wp2_with (first | (go_at_call 74; refine (v_KnownValid_spec k hk A c _ (HR.out.g (by repeat' (first | (with_reducible exact G.refl _) | (with_reducible assumption) | (with_reducible refine G.alloc ?_ _) | (with_reducible refine G.drew ?_) | (with_reducible refine G.drewN ?_ _) | (refine G.setCell ?_ (by first | (simp <;> done) | (simp <;> omega)) _) | (with_reducible refine G.trans ?_ (by with_reducible assumption)))))).mono ?_; rintro e w' ⟨rfl, h1⟩; obtain ⟨hch1, hfh1⟩ := gcell h1; try (have hzh1 : w.heap.size < w'.heap.size := by have := h1.size; (try simp at this); omega); try (have hyh1 : w.heap.size + 1 < w'.heap.size := by have := h1.size; (try simp at this); omega)) | (go_at_call 41; refine (v_DataFits_spec k.s hk.s d b HB.out (by omega) false _ HR2.out).mono ?_; rintro e w' ⟨rfl, h2⟩; obtain ⟨hch2, hfh2⟩ := gcell h2; try (have hzh2 : w.heap.size < w'.heap.size := by have := h2.size; (try simp at this); omega); try (have hyh2 : w.heap.size + 1 < w'.heap.size := by have := h2.size; (try simp at this); omega)) | fail)
    go_ret2
    exact ⟨rfl, (by repeat' (first | (with_reducible exact G.refl _) | (with_reducible assumption) | (with_reducible refine G.alloc ?_ _) | (with_reducible refine G.drew ?_) | (with_reducible refine G.drewN ?_ _) | (refine G.setCell ?_ (by first | (simp <;> done) | (simp <;> omega)) _) | (with_reducible refine G.trans ?_ (by with_reducible assumption))))⟩
  · have HD : Hid (M.Kn.fits k.s.c d) := by have := HR3.out; simpa [Hid] using this
    go_enter Tryz.func60, Tryz.ntmps60
    go_wp2_with (first | (go_at_call 74; refine (v_KnownValid_spec k hk A c _ (HR.out.g (by repeat' (first | (with_reducible exact G.refl _) | (with_reducible assumption) | (with_reducible refine G.alloc ?_ _) | (with_reducible refine G.drew ?_) | (with_reducible refine G.drewN ?_ _) | (refine G.setCell ?_ (by first | (simp <;> done) | (simp <;> omega)) _) | (with_reducible refine G.trans ?_ (by with_reducible assumption)))))).mono ?_; rintro e w' ⟨rfl, h1⟩; obtain ⟨hch1, hfh1⟩ := gcell h1; try (have hzh1 : w.heap.size < w'.heap.size := by have := h1.size; (try simp at this); omega); try (have hyh1 : w.heap.size + 1 < w'.heap.size := by have := h1.size; (try simp at this); omega)) | (go_at_call 41; refine (v_DataFits_spec k.s hk.s d b HB.out (by omega) true _ HR2.out).mono ?_; rintro e w' ⟨rfl, h2⟩; obtain ⟨hch2, hfh2⟩ := gcell h2; try (have hzh2 : w.heap.size < w'.heap.size := by have := h2.size; (try simp at this); omega); try (have hyh2 : w.heap.size + 1 < w'.heap.size := by have := h2.size; (try simp at this); omega)) | (go_at_call 75; refine (v_l2Compress k hk A c hc _ (HR.out.g (by repeat' (first | (with_reducible exact G.refl _) | (with_reducible assumption) | (with_reducible refine G.alloc ?_ _) | (with_reducible refine G.drew ?_) | (with_reducible refine G.drewN ?_ _) | (refine G.setCell ?_ (by first | (simp <;> done) | (simp <;> omega)) _) | (with_reducible refine G.trans ?_ (by with_reducible assumption))))) (fun a ha => by have := HA.out a ha; omega) d HD.out hdl b HB.out).mono ?_; rintro e w' ⟨rfl, h3⟩; obtain ⟨hch3, hfh3⟩ := gcell h3; try (have hzh3 : w.heap.size < w'.heap.size := by have := h3.size; (try simp at this); omega); try (have hyh3 : w.heap.size + 1 < w'.heap.size := by have := h3.size; (try simp at this); omega)) | fail)
    go_ret2
    exact ⟨rfl, (by repeat' (first | (with_reducible exact G.refl _) | (with_reducible assumption) | (with_reducible refine G.alloc ?_ _) | (with_reducible refine G.drew ?_) | (with_reducible refine G.drewN ?_ _) | (refine G.setCell ?_ (by first | (simp <;> done) | (simp <;> omega)) _) | (with_reducible refine G.trans ?_ (by with_reducible assumption))))⟩
end
end Go.Proofs.YtlaijbkonapdbaaGreat

namespace Go.Proofs.YtlaijbkonapdbaaGreat
open Go.RowKit
attribute [local go_sem] grow_cell grow_frozen conv_one
theorem cf_l2Find : ∀ args w, (callFunc 114 args).run Tryz.prog w = .ok (.enter 114 args) w := by intro args w; go_simp
theorem cf_l2After : ∀ args w, (callFunc 113 args).run Tryz.prog w = .ok (.enter 113 args) w := by intro args w; go_simp

section
variable (k : M.Kn) (hk : k.V) (A : Option Addr) (c : Nat) (hc : k.ps.length ≤ c) (w : World) (hr : Rds w 2 A k.ps.length (cP k.ps)) (hA : ∀ a, A = some a → a.block < w.heap.size)
include hk hr hc hA

set_option maxRecDepth 8000 in
set_option maxHeartbeats 4000000 in
theorem v_l4Learn (d : M.Bytes) (hd : M.Kn.fits k.s.c d) (b : ByteArray) (hbl : b.size ≤ 2000) (hb : bs b = d) :
    Calls Tryz.prog 91 #[knV k A c, .string b] w fun e w' => GivesK (M.Kn.learnK k d) w e w' := by
  have hs := hk.s
  have HB := Lib.hid hb
  have HD := Lib.hid hd
  have hK0 := KB.new w k A c hc hr hA
  have HR := Lib.hid hr
  have HA := Lib.hid hA
  clear hb hd hr hA
  go_enter Tryz.func91, Tryz.ntmps91
  go_wp2_with (first | (go_at_call 111; refine (v_l2Cleared k hk A c hc _ (HR.out.g (by repeat' (first | (with_reducible exact G.refl _) | (with_reducible assumption) | (with_reducible refine G.alloc ?_ _) | (with_reducible refine G.drew ?_) | (with_reducible refine G.drewN ?_ _) | (refine G.setCell ?_ (by first | (simp <;> done) | (simp <;> omega)) _) | (with_reducible refine G.trans ?_ (by with_reducible assumption)))))).mono ?_; rintro e w' ⟨⟨A1, c1, rfl, hR1⟩, h2⟩; have hK1 := hK0.g (w' := w') (by repeat' (first | (with_reducible exact G.refl _) | (with_reducible assumption) | (with_reducible refine G.alloc ?_ _) | (with_reducible refine G.drew ?_) | (with_reducible refine G.drewN ?_ _) | (refine G.setCell ?_ (by first | (simp <;> done) | (simp <;> omega)) _) | (with_reducible refine G.trans ?_ (by with_reducible assumption)))); have hfz := hK1.fz; obtain ⟨hch2, hfh2⟩ := gcell h2) | fail)
  rename World => wB
  have hKs := KB.set (k := k.cleared) hK1.row hR1 (by simp <;> omega)
  have hrb1 : wB.heap[w.heap.size + 1]? = some (.cells #[.int .i64 0, .int .i64 0, .int .i64 0, .slice none 0 0, .int .i64 0, .int .i64 0] 40 (0, 0)) := (h2.heap (by simp)).trans (alloc_at _ _ _ (by simp))
  go_loopw [1] (fun x wr => ∃ (kk : M.Kn) (Ak : Option Addr) (ck : Nat) (dd : M.Bytes) (bd : ByteArray), x = .string bd ∧ Hid (bs bd = dd) ∧ bd.size ≤ 2000 ∧ KB wr w.heap.size kk Ak ck ∧ Hid (kk.V) ∧ Hid (M.Kn.fits kk.s.c dd) ∧ wr.ownsRow (w.heap.size + 2) 98 2 (.slice Ak kk.ps.length ck) kk.ps.length (cP kk.ps)
      ∧ Hid (M.Kn.lrn k.cleared d = M.Kn.lrn kk dd) ∧ wr.heap[w.heap.size + 1]? = some (.cells #[.int .i64 0, .int .i64 0, .int .i64 0, .slice none 0 0, .int .i64 0, .int .i64 0] 40 (0, 0)) ∧ G w wr) (fun x _ => match x with | .string s => s.size | _ => 0)
  case atStart =>
    refine ⟨k.cleared, A1, c1, d, b, rfl, HB.out, hbl, hKs.1, hk.cleared, HD.out, own_set6 (own_mono hR1 (by simp)) (fun e => by have := own_base hR1 e; simp at this; omega), rfl, ?_, (by repeat' (first | (with_reducible exact G.refl _) | (with_reducible assumption) | (with_reducible refine G.alloc ?_ _) | (with_reducible refine G.drew ?_) | (with_reducible refine G.drewN ?_ _) | (refine G.setCell ?_ (by first | (simp <;> done) | (simp <;> omega)) _) | (with_reducible refine G.trans ?_ (by with_reducible assumption))))⟩
    rw [set_far (by omega), set_far (by omega), set_far (by omega), set_far (by omega), set_far (by omega), set_far (by omega)]
    exact hrb1
  case round =>
    obtain ⟨kk, Ak, ck, dd, bd, rfl, HBD, hbd, hKB, HKV, HFT, hown, HL, hrb, hGr⟩ := hrel
    obtain ⟨k9, k0, k1, k2, k3, k4, k5⟩ := hKB.box
    have hfz := hKB.fz
    have hrl := lt_of_block hrb
    by_cases hdd : dd = []
    · have hq1 : bd.toList.isEmpty = true := by rw [ByteArray.toList_eq, show bd.data.toList = dd from HBD.out, hdd]; rfl
      have HL2 : Hid (M.Kn.lrn k.cleared d = kk) := by show _ = _; rw [HL.out, hdd, M.Kn.lrn_nil]
      have hrf : ∀ o, wr.frozen? ⟨w.heap.size + 1, o, none⟩ = false := fun o => frozen_of_row wr _ o _ _ hrb
      have r0 : wr.cell? ⟨w.heap.size + 1, 0, none⟩ = some (.int .i64 0) := by rw [cell_of_row wr _ 0 _ _ _ hrb]; rfl
      have r1 : wr.cell? ⟨w.heap.size + 1, 1, none⟩ = some (.int .i64 0) := by rw [cell_of_row wr _ 1 _ _ _ hrb]; rfl
      have r2 : wr.cell? ⟨w.heap.size + 1, 2, none⟩ = some (.int .i64 0) := by rw [cell_of_row wr _ 2 _ _ _ hrb]; rfl
      have r3 : wr.cell? ⟨w.heap.size + 1, 3, none⟩ = some (.slice none 0 0) := by rw [cell_of_row wr _ 3 _ _ _ hrb]; rfl
      have r4 : wr.cell? ⟨w.heap.size + 1, 4, none⟩ = some (.int .i64 0) := by rw [cell_of_row wr _ 4 _ _ _ hrb]; rfl
      have r5 : wr.cell? ⟨w.heap.size + 1, 5, none⟩ = some (.int .i64 0) := by rw [cell_of_row wr _ 5 _ _ _ hrb]; rfl
      clear hdd
      go_wp2
      refine bodyPost_ret (results_cells rfl _ _ (w.heap.size + 1) [.int .i64 kk.s.ord, .int .i64 kk.s.lit, .int .i64 kk.s.most, .slice Ak (kk.ps.length) ck, .int .i64 kk.ps.length, .int .i64 (-1)] _ rfl (cells6 (by go_cell) (by go_cell) (by go_cell) (by go_cell) (by go_cell) (by go_cell)) Tryz.underlying40 rfl (by kernel_rfl)) rfl ?_
      have e : M.Kn.learnK k d = { kk with base := kk.ps.length, last := -1 } := by unfold M.Kn.learnK; rw [HL2.out]
      rw [e]
      refine ⟨⟨Ak, ck, rfl, ?_⟩, (by repeat' (first | (with_reducible exact G.refl _) | (with_reducible assumption) | (with_reducible refine G.alloc ?_ _) | (with_reducible refine G.drew ?_) | (with_reducible refine G.drewN ?_ _) | (refine G.setCell ?_ (by first | (simp <;> done) | (simp <;> omega)) _) | (with_reducible refine G.trans ?_ (by with_reducible assumption))))⟩
      exact own_mono (own_set6 hown (fun e => by have := own_base hown e; omega)) (by omega)
    · have hq1 : bd.toList.isEmpty = false := by rw [ByteArray.toList_eq, show bd.data.toList = dd from HBD.out]; simpa using hdd
      have hbd1 : 1 ≤ dd.length := by cases dd with
        | nil => exact absurd rfl hdd
        | cons => simp
      have hbd2 : dd.length ≤ 100000 := by rw [← HBD.out, ← bs_size]; omega
      have HF := M.Kn.longF_spec HKV.out hdd (HFT.out.head hdd)
      obtain ⟨bw, hbw⟩ : ∃ bw, bs bw = kk.longW dd := ⟨⟨(kk.longW dd).toArray⟩, rfl⟩
      have HLW : Hid (S (kk.longW dd) = .string bw) := (bs_eq hbw).symm
      have HBW := Lib.hid hbw
      have HFF := Lib.hid HF
      have hbw1 : bw.size ≤ bd.size := by rw [bs_size, bs_size, hbw, HBD.out]; exact HF.2.2.2.2.1
      have hbw0 : 1 ≤ bw.size := by rw [bs_size, hbw]; exact HF.2.2.2.1
      have hcut : kk.cut dd = bw.size := by rw [bs_size, hbw]; exact M.Kn.cut_eq HKV.out hdd HFT.out
      have hlrn := M.Kn.lrn_cons kk dd hdd
      rw [hcut] at hlrn
      have HLR := Lib.hid hlrn
      have HDD := Lib.hid hdd
      have HD1 := Lib.hid hbd1
      have HD2 := Lib.hid hbd2
      clear hbw hdd HF hbd1 hbd2 hcut hlrn
      go_wp2_with (first | (go_at_call 112; refine (v_l2Longest kk HKV.out Ak ck _ (hKB.rd.g (by repeat' (first | (with_reducible exact G.refl _) | (with_reducible assumption) | (with_reducible refine G.alloc ?_ _) | (with_reducible refine G.drew ?_) | (with_reducible refine G.drewN ?_ _) | (refine G.setCell ?_ (by first | (simp <;> done) | (simp <;> omega)) _) | (with_reducible refine G.trans ?_ (by with_reducible assumption))))) dd HD1.out HD2.out bd HBD.out).mono ?_; rintro e w' ⟨rfl, h1⟩; obtain ⟨hch1, hfh1⟩ := gcell h1; have hs1 := h1.size; rw [HLW.out]) | fail)
      have hKB1 := hKB.g h1
      rename World => wl
      have hrb2 := (h1.heap hrl).trans hrb
      have hown2 := own_g hown h1
      go_region_law (first | (refine step_fn ?_ 114 #[.tmp 14, .tmp 15] #[40, 9] ?_ #[knV kk Ak ck, .string bw] ?_ cf_l2Find ?_; exact rfl; exact rfl; (simp only [List.map_toArray, List.map_cons, List.map_nil, Act.eval]; rfl); refine (v_l2Find kk HKV.out Ak ck _ (hKB1.rd.g (by repeat' (first | (with_reducible exact G.refl _) | (with_reducible assumption) | (with_reducible refine G.alloc ?_ _) | (with_reducible refine G.drew ?_) | (with_reducible refine G.drewN ?_ _) | (refine G.setCell ?_ (by first | (simp <;> done) | (simp <;> omega)) _) | (with_reducible refine G.trans ?_ (by with_reducible assumption))))) (kk.longW dd) HFF.out.2.2.2.1 (by have := HFF.out.2.2.2.2.1; have := HD2.out; omega) (kk.longF dd) HFF.out.1 bw HBW.out).mono ?_; rintro e w' ⟨rfl, h2⟩; have hKB2 := (hKB1.g (w' := w') (by repeat' (first | (with_reducible exact G.refl _) | (with_reducible assumption) | (with_reducible refine G.alloc ?_ _) | (with_reducible refine G.drew ?_) | (with_reducible refine G.drewN ?_ _) | (refine G.setCell ?_ (by first | (simp <;> done) | (simp <;> omega)) _) | (with_reducible refine G.trans ?_ (by with_reducible assumption))))); obtain ⟨j9, j0, j1, j2, j3, j4, j5⟩ := hKB2.box; refine ⟨_, rfl, ?_⟩) | (refine step_fn ?_ 113 #[.tmp 13, .tmp 16] #[40, 3] ?_ #[knV kk Ak ck, .int .i64 (kk.longF dd)] ?_ cf_l2After ?_; exact rfl; exact rfl; (simp only [List.map_toArray, List.map_cons, List.map_nil, Act.eval]; rfl); refine (v_l2After kk HKV.out Ak ck hKB.cap _ (hKB1.rd.g (by repeat' (first | (with_reducible exact G.refl _) | (with_reducible assumption) | (with_reducible refine G.alloc ?_ _) | (with_reducible refine G.drew ?_) | (with_reducible refine G.drewN ?_ _) | (refine G.setCell ?_ (by first | (simp <;> done) | (simp <;> omega)) _) | (with_reducible refine G.trans ?_ (by with_reducible assumption))))) (kk.longF dd) HFF.out.2.1).mono ?_; rintro e w' ⟨⟨A3, c3, rfl, hR3⟩, h3⟩; have hK3 := (hKB1.g (w' := w') (by repeat' (first | (with_reducible exact G.refl _) | (with_reducible assumption) | (with_reducible refine G.alloc ?_ _) | (with_reducible refine G.drew ?_) | (with_reducible refine G.drewN ?_ _) | (refine G.setCell ?_ (by first | (simp <;> done) | (simp <;> omega)) _) | (with_reducible refine G.trans ?_ (by with_reducible assumption))))); have hfz3 := hK3.fz; obtain ⟨i9, i0, i1, i2, i3, i4, i5⟩ := hK3.box; have hrb3 := (show G wl w' from (by repeat' (first | (with_reducible exact G.refl _) | (with_reducible assumption) | (with_reducible refine G.alloc ?_ _) | (with_reducible refine G.drew ?_) | (with_reducible refine G.drewN ?_ _) | (refine G.setCell ?_ (by first | (simp <;> done) | (simp <;> omega)) _) | (with_reducible refine G.trans ?_ (by with_reducible assumption))))).heap (k := w.heap.size + 1) (by have := h1.size; omega); refine ⟨_, rfl, ?_⟩) | fail)
      all_goals
        rename World => w3
        obtain ⟨hKs3, hA3⟩ := KB.set (k := kk.after (kk.longF dd)) hK3.row hR3 (by have := (show G w _ from hGr.trans h1).size; omega)
        have hV4 := HKV.out.after HFF.out.2.1
        obtain ⟨bd2, hbd2⟩ : ∃ x, bd.extract bw.size bd.size = x := ⟨_, rfl⟩
        have hbs2 : bs bd2 = dd.drop bw.size := by rw [← hbd2, bs_extract, HBD.out]; apply List.take_of_length_le; rw [List.length_drop, ← HBD.out, ← bs_size]; omega
        have hbz2 : bd2.size = bd.size - bw.size := by rw [bs_size, hbs2, List.length_drop, ← HBD.out, ← bs_size]
        go_wp2
        have HBS2 := Lib.hid hbs2
        have hbz3 : bd2.size ≤ bd.size - bw.size := by omega
        clear hbd2 hbz2
        refine ⟨⟨kk.after (kk.longF dd), A3, c3, dd.drop bw.size, bd2, rfl, HBS2.out, by omega, hKs3, hV4, HFT.out.drop _, own_set6 (own_mono hR3 (by first | (have := h2.size; simp at this; omega) | (simp; omega))) (fun e => by have := own_base hR3 e; omega), ?_, ?_, (by repeat' (first | (with_reducible exact G.refl _) | (with_reducible assumption) | (with_reducible refine G.alloc ?_ _) | (with_reducible refine G.drew ?_) | (with_reducible refine G.drewN ?_ _) | (refine G.setCell ?_ (by first | (simp <;> done) | (simp <;> omega)) _) | (with_reducible refine G.trans ?_ (by with_reducible assumption))))⟩, by simp; omega⟩
        · show _ = _; rw [HL.out, HLR.out]
        · rw [set_far (by omega), set_far (by omega), set_far (by omega), set_far (by omega), set_far (by omega), set_far (by omega)]
          exact hrb3.trans hrb2
end
end Go.Proofs.YtlaijbkonapdbaaGreat

/-! Blocks: sums, two bytes, the form of a block, its text, how it is read. -/
namespace M
def sumStep (p : Nat × Nat) (x : UInt8) : Nat × Nat := ((p.1 + x.toNat) % 255, (p.2 + (p.1 + x.toNat) % 255) % 255)
def sums (d : Bytes) : Nat × Nat := d.foldl sumStep (0, 0)
def sumOf (d : Bytes) : Nat := 256 * (sums d).2 + (sums d).1
theorem sums_snoc (d : Bytes) (x : UInt8) : sums (d ++ [x]) = sumStep (sums d) x := by simp [sums, List.foldl_append]
theorem sums_take (d : Bytes) (i : Nat) (x : UInt8) (h : d[i]? = some x) : sums (d.take (i + 1)) = sumStep (sums (d.take i)) x := by
  rw [List.take_add_one, h]; exact sums_snoc _ _
theorem sums_lt (d : Bytes) : (sums d).1 < 255 ∧ (sums d).2 < 255 := by
  have h : ∀ (d : Bytes) (p : Nat × Nat), p.1 < 255 ∧ p.2 < 255 → (d.foldl sumStep p).1 < 255 ∧ (d.foldl sumStep p).2 < 255 := by
    intro d
    induction d with
    | nil => intro p h; exact h
    | cons x d ih => intro p h; exact ih _ ⟨Nat.mod_lt _ (by omega), Nat.mod_lt _ (by omega)⟩
  exact h d (0, 0) ⟨by decide, by decide⟩
theorem sumOf_lt (d : Bytes) : sumOf d < 65536 := by have := sums_lt d; unfold sumOf; omega

def two (n : Nat) : Bytes := [UInt8.ofNat (n / 256), UInt8.ofNat n]
@[simp] theorem two_len (n : Nat) : (two n).length = 2 := rfl
theorem two_pair (a b : UInt8) : two (256 * a.toNat + b.toNat) = [a, b] := by
  have ha := a.toNat_lt; have hb := b.toNat_lt
  unfold two
  have e1 : (256 * a.toNat + b.toNat) / 256 = a.toNat := by omega
  have e2 : UInt8.ofNat (256 * a.toNat + b.toNat) = b := by
    apply UInt8.toNat_inj.mp; rw [UInt8.toNat_ofNat']; omega
  rw [e1, e2, UInt8.ofNat_toNat]
theorem two_inj (a b : UInt8) (n : Nat) (hn : n < 65536) : two n = [a, b] ↔ n = 256 * a.toNat + b.toNat := by
  constructor
  · intro h
    unfold two at h
    simp only [List.cons.injEq, and_true] at h
    rw [← h.1, ← h.2, UInt8.toNat_ofNat', UInt8.toNat_ofNat']
    omega
  · rintro rfl; exact two_pair a b

structure Bl where
  num : Nat
  raw : Bool
  size : Nat
  body : Bytes
def Bl.form (b : Bl) : Bool := decide (b.num ≤ 39 ∧ 1 ≤ b.size ∧ b.size ≤ 64) && (if b.raw then decide (b.body.length = b.size) else decide (1 ≤ b.body.length ∧ b.body.length < b.size))
theorem Bl.form_iff (b : Bl) : b.form = true ↔ (b.num ≤ 39 ∧ 1 ≤ b.size ∧ b.size ≤ 64) ∧ (if b.raw then b.body.length = b.size else 1 ≤ b.body.length ∧ b.body.length < b.size) := by
  unfold Bl.form; cases b.raw <;> simp
theorem Bl.form_len {b : Bl} (h : b.form = true) : b.num ≤ 39 ∧ 1 ≤ b.size ∧ b.size ≤ 64 ∧ 1 ≤ b.body.length ∧ b.body.length ≤ 64 := by
  rw [Bl.form_iff] at h
  obtain ⟨h1, h2⟩ := h
  cases hr : b.raw
  · rw [hr] at h2; simp at h2; omega
  · rw [hr] at h2; simp at h2; omega
def Bl.kind (b : Bl) : UInt8 := if b.raw then 0 else 1
def Bl.inner (b : Bl) : Bytes := b.kind :: (two b.num ++ two b.size ++ two b.body.length ++ b.body)
def Bl.text (b : Bl) : Bytes := 181 :: (b.inner ++ two (sumOf b.inner))
theorem Bl.inner_len (b : Bl) : b.inner.length = 7 + b.body.length := by simp [Bl.inner]; omega
theorem Bl.text_len (b : Bl) : b.text.length = 10 + b.body.length := by simp [Bl.text, Bl.inner_len]; omega

def by1 (d : Bytes) (i : Nat) : Nat := (d.getD i 0).toNat
def at2 (d : Bytes) (i : Nat) : Nat := 256 * by1 d i + by1 d (i + 1)
theorem by1_lt (d : Bytes) (i : Nat) : by1 d i < 256 := UInt8.toNat_lt _
theorem at2_lt (d : Bytes) (i : Nat) : at2 d i < 65536 := by have := by1_lt d i; have := by1_lt d (i + 1); unfold at2; omega
def blAt (d : Bytes) (k : Nat) : Bl := ⟨at2 d (k + 2), decide (by1 d (k + 1) = 0), at2 d (k + 4), (d.drop (k + 8)).take (at2 d (k + 6))⟩
/-- the end of a block, were one there -/
def enAt (d : Bytes) (k : Nat) : Nat := k + 10 + at2 d (k + 6)
def heAt (d : Bytes) (k : Nat) : Prop := k + 10 ≤ d.length ∧ by1 d k = 181 ∧ by1 d (k + 1) ≤ 1 ∧ enAt d k ≤ d.length
def okP (d : Bytes) (k : Nat) : Prop := heAt d k ∧ (blAt d k).form = true ∧ (blAt d k).text = (d.drop k).take (enAt d k - k)
def okI (d : Bytes) (k : Nat) : Prop := heAt d k ∧ (blAt d k).form = true ∧ sumOf ((d.drop (k + 1)).take (enAt d k - 2 - (k + 1))) = at2 d (enAt d k - 2)
theorem take_cons (d : Bytes) (i n : Nat) (h : i < d.length) : (d.drop i).take (n + 1) = d.getD i 0 :: (d.drop (i + 1)).take n := by
  rw [List.drop_eq_getElem_cons h, List.take_succ_cons]
  congr 1
  simp [List.getD_eq_getElem?_getD, h]
theorem two_at2 (d : Bytes) (i : Nat) : two (at2 d i) = [d.getD i 0, d.getD (i + 1) 0] := two_pair _ _
theorem inner_at (d : Bytes) (k : Nat) (h : heAt d k) : (blAt d k).inner = (d.drop (k + 1)).take (enAt d k - 2 - (k + 1)) := by
  obtain ⟨h1, h2, h3, h4⟩ := h
  generalize hn : at2 d (k + 6) = n
  have e : enAt d k = k + 10 + n := by unfold enAt; rw [hn]
  rw [e] at h4 ⊢
  have hb : ((d.drop (k + 8)).take n).length = n := by simp; omega
  have hk : (if decide (by1 d (k + 1) = 0) = true then (0 : UInt8) else 1) = d.getD (k + 1) 0 := by
    apply UInt8.toNat_inj.mp
    show _ = by1 d (k + 1)
    rcases (show by1 d (k + 1) = 0 ∨ by1 d (k + 1) = 1 by omega) with h | h <;> rw [h] <;> rfl
  unfold Bl.inner Bl.kind blAt
  simp only [hn, hb]
  rw [hk, two_at2, two_at2, ← hn, two_at2, hn, show k + 10 + n - 2 - (k + 1) = n + 1 + 1 + 1 + 1 + 1 + 1 + 1 by omega, take_cons _ _ _ (by omega), take_cons _ _ _ (by omega), take_cons _ _ _ (by omega), take_cons _ _ _ (by omega),
    take_cons _ _ _ (by omega), take_cons _ _ _ (by omega), take_cons _ _ _ (by omega)]
  simp
theorem okP_iff (d : Bytes) (k : Nat) : okP d k ↔ okI d k := by
  unfold okP okI
  constructor
  all_goals
    rintro ⟨h, hf, ht⟩
    refine ⟨h, hf, ?_⟩
    have hi := inner_at d k h
    obtain ⟨h1, h2, h3, h4⟩ := h
    generalize hn : at2 d (k + 6) = n
    have e : enAt d k = k + 10 + n := by unfold enAt; rw [hn]
    rw [e] at h4 hi ht ⊢
    have hsl : (d.drop k).take (k + 10 + n - k) = d.getD k 0 :: ((d.drop (k + 1)).take (k + 10 + n - 2 - (k + 1)) ++ [d.getD (k + 10 + n - 2) 0, d.getD (k + 10 + n - 2 + 1) 0]) := by
      have e2 : k + 10 + n - k = (7 + n + (1 + 1)) + 1 := by omega
      have e3 : k + 10 + n - 2 - (k + 1) = 7 + n := by omega
      rw [e2, take_cons _ _ _ (by omega), e3, List.take_add, List.drop_drop, show k + 1 + (7 + n) = k + 10 + n - 2 by omega, take_cons _ _ 1 (by omega), take_cons _ _ 0 (by omega)]
      simp
    have h181 : d.getD k 0 = 181 := by apply UInt8.toNat_inj.mp; exact h2
    have hkey : (blAt d k).text = (d.drop k).take (k + 10 + n - k) ↔ sumOf ((d.drop (k + 1)).take (k + 10 + n - 2 - (k + 1))) = at2 d (k + 10 + n - 2) := by
      unfold Bl.text
      rw [hi, hsl, h181]
      simp only [List.cons.injEq, List.append_cancel_left_eq, true_and]
      rw [two_inj _ _ _ (sumOf_lt _)]
      rfl
    first | exact hkey.mp ht | exact hkey.mpr ht
instance (d : Bytes) (k : Nat) : Decidable (heAt d k) := by unfold heAt; infer_instance
instance (d : Bytes) (k : Nat) : Decidable (okI d k) := by unfold okI; infer_instance
instance (d : Bytes) (k : Nat) : Decidable (okP d k) := by unfold okP; infer_instance
end M

namespace Go.Proofs.YtlaijbkonapdbaaGreat
open Go.RowKit
attribute [local go_sem] grow_cell grow_frozen conv_one
open Go.PlainAid (bt get_bt bt_nonneg bt_le)

theorem bt_by1 (b : ByteArray) (i : Nat) : bt b i = M.by1 (bs b) i := by
  unfold M.by1
  by_cases h : i < b.size
  · rw [bt_bs (l := bs b) rfl i _ (bs_get b i h), List.getD_eq_getElem?_getD, bs_get b i h]; rfl
  · have h2 : ¬ i < (bs b).length := by rw [← bs_size]; exact h
    unfold bt
    rw [dif_neg h, List.getD_eq_getElem?_getD, List.getElem?_eq_none (by omega)]; rfl

theorem get_by1 (b : ByteArray) : ∀ (n : Nat) (h : n < b.size), ((b[n]'h).toNat : Int) = (M.by1 (bs b) n : Nat) := fun n h => by rw [get_bt b n h, bt_by1]
theorem by1_le (d : M.Bytes) (i : Nat) : M.by1 d i ≤ 255 := by have := M.by1_lt d i; omega
theorem conv_two (W : World) (n m : Int) : (convert 60 9 (.slice (some ⟨W.heap.size, 0, none⟩) 2 2)).run Tryz.prog (W.alloc (.cells #[.int .u8 n, .int .u8 m] 5)) =
    .ok (.string ⟨#[UInt8.ofNat n.toNat, UInt8.ofNat m.toNat]⟩) (W.alloc (.cells #[.int .u8 n, .int .u8 m] 5)) := by
  have := conv_bytes (W.alloc (.cells #[.int .u8 n, .int .u8 m] 5)) ⟨W.heap.size, 0, none⟩ 2 2 [n, m] rfl (by
    intro j u hu
    rw [add_head]
    match j, hu with
    | 0, hu => simp at hu; subst hu; simp [World.cell?_alloc_at]
    | 1, hu => simp at hu; subst hu; simp [World.cell?_alloc_at])
  simpa using this
attribute [local go_sem] conv_two

theorem v_sizeValid (n : Int) (w : World) : Calls Tryz.prog 28 #[.int .i64 n] w fun e w' => e = .returned (.bool (decide (1 ≤ n ∧ n ≤ 64))) ∧ w = w' := by
  by_cases h1 : 1 ≤ n <;> by_cases h2 : n ≤ 64
  all_goals
    go_enter Tryz.func28, Tryz.ntmps28
    go_wp2
    go_ret
    refine ⟨?_, rfl⟩
    simp [h1, h2]
theorem v_l5Pair (b : ByteArray) (hb : 2 ≤ b.size) (w : World) : Calls Tryz.prog 38 #[.string b] w fun e w' => e = .returned (.int .i64 (M.at2 (bs b) 0)) ∧ G w w' := by
  have hget := get_bt b
  have n0 := bt_nonneg b 0
  have n1 := bt_nonneg b 1
  have l0 := bt_le b 0
  have l1 := bt_le b 1
  have H : Hid ((M.at2 (bs b) 0 : Int) = 256 * bt b 0 + bt b 1) := by show _ = _; rw [bt_by1, bt_by1]; rfl
  go_enter Tryz.func38, Tryz.ntmps38
  go_wp2
  refine wp_region_quiet_below (by kernel_rfl) (by kernel_rfl) ?_
  repeat (first | go_big_quiet_step (fail) | quiet_step (fail))
  refine wpQuiet_nil ?_
  intro w' hw'
  have h9 := G.of_regrown hw'
  clear hw'
  obtain ⟨hch9, hfh9⟩ := gcell h9
  go_wp2
  go_ret
  exact ⟨ret_int (by rw [H.out]), (by repeat' (first | (with_reducible exact G.refl _) | (with_reducible assumption) | (with_reducible refine G.alloc ?_ _) | (with_reducible refine G.drew ?_) | (with_reducible refine G.drewN ?_ _) | (refine G.setCell ?_ (by first | (simp <;> done) | (simp <;> omega)) _) | (with_reducible refine G.trans ?_ (by with_reducible assumption))))⟩
theorem v_l4Two (n : Nat) (hn : n < 65536) (w : World) : Calls Tryz.prog 55 #[.int .i64 n] w fun e w' => e = .returned (S (M.two n)) ∧ G w w' := by
  have hn : n ≤ 65535 := by omega
  go_enter Tryz.func55, Tryz.ntmps55
  go_wp2
  go_ret
  refine ⟨?_, (by repeat' (first | (with_reducible exact G.refl _) | (with_reducible assumption) | (with_reducible refine G.alloc ?_ _) | (with_reducible refine G.drew ?_) | (with_reducible refine G.drewN ?_ _) | (refine G.setCell ?_ (by first | (simp <;> done) | (simp <;> omega)) _) | (with_reducible refine G.trans ?_ (by with_reducible assumption))))⟩
  have e1 : n / 256 % 256 = n / 256 := by omega
  have e2 : UInt8.ofNat (n % 256) = UInt8.ofNat n := by apply UInt8.toNat_inj.mp; simp
  unfold S M.two
  simp [e1, e2]
theorem u8_shr (n : Nat) (hn : n ≤ 65535) : ((n >>> 8 : Nat)) = n / 256 := by rw [Nat.shiftRight_eq_div_pow]
theorem v_twoBytes (n : Nat) (hn : n < 65536) (w : World) : Calls Tryz.prog 48 #[.int .i64 n] w fun e w' => e = .returned (S (M.two n)) ∧ G w w' := by
  have hn : n ≤ 65535 := by omega
  go_enter Tryz.func48, Tryz.ntmps48
  go_wp2
  go_ret
  refine ⟨?_, (by repeat' (first | (with_reducible exact G.refl _) | (with_reducible assumption) | (with_reducible refine G.alloc ?_ _) | (with_reducible refine G.drew ?_) | (with_reducible refine G.drewN ?_ _) | (refine G.setCell ?_ (by first | (simp <;> done) | (simp <;> omega)) _) | (with_reducible refine G.trans ?_ (by with_reducible assumption))))⟩
  have e1 : n / 256 % 256 = n / 256 := by omega
  have e2 : UInt8.ofNat (n % 256) = UInt8.ofNat n := by apply UInt8.toNat_inj.mp; simp
  unfold S M.two
  simp [e1, e2]

theorem shl_or (a b : Nat) (ha : a ≤ 255) (hb : b ≤ 255) : (a <<< 8) ||| b = 256 * a + b := by
  rw [Nat.shiftLeft_eq, show a * 2 ^ 8 = 2 ^ 8 * a by omega, ← Nat.two_pow_add_eq_or_of_lt (by omega)]
theorem i64_or_nat (a b : Nat) (ha : a < 9223372036854775808) (hb : b < 9223372036854775808) : bits .or .i64 (a : Int) (b : Int) = ((a ||| b : Nat) : Int) := by
  have h1 : ∀ x : Nat, x < 9223372036854775808 → (BitVec.ofInt 64 (x : Int)).toNat = x := by
    intro x hx; rw [BitVec.ofInt_natCast, BitVec.toNat_ofNat]; exact Nat.mod_eq_of_lt (by omega)
  have hx : a ||| b < 2 ^ 63 := Nat.or_lt_two_pow (by omega) (by omega)
  show IntKind.i64.wrap ((BitVec.ofInt 64 (a : Int) ||| BitVec.ofInt 64 (b : Int)).toNat : Int) = _
  rw [BitVec.toNat_or, h1 a ha, h1 b hb, IntKind.wrap_i64]
  omega
theorem v_numberAt (b : ByteArray) (i : Nat) (hi : i + 2 ≤ b.size) (hb : b.size ≤ 100000000) (w : World) : Calls Tryz.prog 65 #[.string b, .int .i64 i] w fun e w' => e = .returned (.int .i64 (M.at2 (bs b) i)) ∧ G w w' := by
  have hget := get_bt b
  have n0 := bt_nonneg b i
  have n1 := bt_nonneg b (i + 1)
  have l0 := bt_le b i
  have l1 := bt_le b (i + 1)
  have H : Hid ((M.at2 (bs b) i : Int) = 256 * bt b i + bt b (i + 1)) := by show _ = _; rw [bt_by1, bt_by1]; rfl
  go_enter Tryz.func65, Tryz.ntmps65
  go_wp2
  refine wp_region_quiet_below (by kernel_rfl) (by kernel_rfl) ?_
  repeat (first | go_big_quiet_step (fail) | quiet_step (fail))
  refine wpQuiet_nil ?_
  intro w' hw'
  have h9 := G.of_regrown hw'
  clear hw'
  obtain ⟨hch9, hfh9⟩ := gcell h9
  go_wp2
  go_ret
  refine ⟨ret_int ?_, (by repeat' (first | (with_reducible exact G.refl _) | (with_reducible assumption) | (with_reducible refine G.alloc ?_ _) | (with_reducible refine G.drew ?_) | (with_reducible refine G.drewN ?_ _) | (refine G.setCell ?_ (by first | (simp <;> done) | (simp <;> omega)) _) | (with_reducible refine G.trans ?_ (by with_reducible assumption))))⟩
  have a1 := by1_le (bs b) i
  have a2 := by1_le (bs b) (i + 1)
  rw [bt_by1, bt_by1, show ((M.by1 (bs b) i : Int) * 256) = ((M.by1 (bs b) i * 256 : Nat) : Int) by simp, i64_or_nat _ _ (by omega) (by omega)]
  have := shl_or _ _ a1 a2
  rw [Nat.shiftLeft_eq] at this
  rw [show M.by1 (bs b) i * 256 = M.by1 (bs b) i * 2 ^ 8 by rfl, this]
  rfl

set_option maxHeartbeats 1000000 in
theorem v_SumOf_spec (d : M.Bytes) (b : ByteArray) (hb : bs b = d) (hz : b.size ≤ 100000000) (w : World) : Calls Tryz.prog 56 #[.string b] w fun e w' => e = .returned (.int .i64 (M.sumOf d)) ∧ w = w' := by
  have HB := Lib.hid hb
  have hget := get_bt b
  clear hb
  go_enter Tryz.func56, Tryz.ntmps56
  go_wp2
  go_loop [3, 4, 5] (fun x y i => ∃ (m : Nat), i = .int .i64 m ∧ m ≤ b.size ∧ x = .int .i64 (M.sums (d.take m)).1 ∧ y = .int .i64 (M.sums (d.take m)).2) (fun _ _ i => b.size - (intOf i).toNat)
  case atStart => exact ⟨0, rfl, by omega, rfl, rfl⟩
  case round =>
    obtain ⟨m, rfl, hm, rfl, rfl⟩ := hrel
    have h4 := M.sums_lt (d.take m)
    obtain ⟨p, hp⟩ : ∃ p, p = M.sums (d.take m) := ⟨_, rfl⟩
    rw [← hp] at h4 ⊢
    obtain ⟨p1, p2⟩ := p
    obtain ⟨h5, h6⟩ := h4
    have HP := Lib.hid hp
    clear hp
    dsimp only at h5 h6 ⊢
    by_cases hlt : m < b.size
    · obtain ⟨x, hx⟩ : ∃ x, d[m]? = some x := ⟨_, List.getElem?_eq_getElem (by rw [← HB.out, ← bs_size]; exact hlt)⟩
      have hbt := bt_bs HB.out m x hx
      have hx8 := x.toNat_lt
      have HX := Lib.hid (M.sums_take d m x hx)
      clear hx
      go_wp2
      go_round
      case rel => exact ⟨m + 1, by go_num, by omega, by rw [HX.out, ← HP.out]; simp [M.sumStep], by rw [HX.out, ← HP.out]; simp [M.sumStep]⟩
      case measure => simp [intOf]; omega
    · go_wp2
      go_ret
      obtain rfl : m = b.size := by omega
      refine ⟨ret_int ?_, rfl⟩
      have h7 := HP.out
      rw [List.take_of_length_le (by rw [← HB.out, ← bs_size]; omega)] at h7
      unfold M.sumOf
      rw [← h7]; simp
set_option maxHeartbeats 1000000 in
theorem v_SumOf_impl (d : M.Bytes) (b : ByteArray) (hb : bs b = d) (hz : b.size ≤ 100000000) (w : World) : Calls Tryz.prog 49 #[.string b] w fun e w' => e = .returned (.int .i64 (M.sumOf d)) ∧ w = w' := by
  have HB := Lib.hid hb
  have hget := get_bt b
  clear hb
  go_enter Tryz.func49, Tryz.ntmps49
  go_wp2
  go_loop [3, 4, 8] (fun x y i => ∃ (m : Nat), i = .int .i64 m ∧ m ≤ b.size ∧ x = .int .i64 (M.sums (d.take m)).1 ∧ y = .int .i64 (M.sums (d.take m)).2) (fun _ _ i => b.size - (intOf i).toNat)
  case atStart => exact ⟨0, rfl, by omega, rfl, rfl⟩
  case round =>
    obtain ⟨m, rfl, hm, rfl, rfl⟩ := hrel
    have h4 := M.sums_lt (d.take m)
    obtain ⟨p, hp⟩ : ∃ p, p = M.sums (d.take m) := ⟨_, rfl⟩
    rw [← hp] at h4 ⊢
    obtain ⟨p1, p2⟩ := p
    obtain ⟨h5, h6⟩ := h4
    have HP := Lib.hid hp
    clear hp
    dsimp only at h5 h6 ⊢
    by_cases hlt : m < b.size
    · obtain ⟨x, hx⟩ : ∃ x, d[m]? = some x := ⟨_, List.getElem?_eq_getElem (by rw [← HB.out, ← bs_size]; exact hlt)⟩
      have hbt := bt_bs HB.out m x hx
      have hx8 := x.toNat_lt
      have HX := Lib.hid (M.sums_take d m x hx)
      clear hx
      go_wp2
      go_round
      case rel => exact ⟨m + 1, by go_num, by omega, by rw [HX.out, ← HP.out]; simp [M.sumStep], by rw [HX.out, ← HP.out]; simp [M.sumStep]⟩
      case measure => simp [intOf]; omega
    · go_wp2
      go_ret
      obtain rfl : m = b.size := by omega
      refine ⟨ret_int ?_, rfl⟩
      have h7 := HP.out
      rw [List.take_of_length_le (by rw [← HB.out, ← bs_size]; omega)] at h7
      unfold M.sumOf
      rw [← h7]; simp
end Go.Proofs.YtlaijbkonapdbaaGreat

namespace Go.Proofs.YtlaijbkonapdbaaGreat
open Go.RowKit
attribute [local go_sem] grow_cell grow_frozen conv_one conv_two

section
variable (k : M.Kn) (hk : k.V) (A : Option Addr) (c : Nat) (hc : k.ps.length ≤ c) (w : World) (hr : Rds w 2 A k.ps.length (cP k.ps)) (hA : ∀ a, A = some a → a.block < w.heap.size)
include hk hr hc hA

set_option maxRecDepth 8000 in
set_option maxHeartbeats 1000000 in
theorem v_LearnKnown_spec (d : M.Bytes) (b : ByteArray) (hb : bs b = d) (hz : b.size ≤ 100000000) (hd : b.size ≤ 2000 ∧ M.Kn.fits k.s.c d) :
    Calls Tryz.prog 73 #[knV k A c, .string b] w fun e w' => (∃ A' c', e = .returned (.tuple #[knV (M.Kn.learnK k d) A' c', .bool true]) ∧ w'.ownsRow w.heap.size 98 2 (.slice A' (M.Kn.learnK k d).ps.length c') (M.Kn.learnK k d).ps.length (cP (M.Kn.learnK k d).ps)) ∧ G w w' := by
  have HB := Lib.hid hb
  have HA := Lib.hid hA
  have HR := Lib.hid hr
  have HR2 : Hid (decide (b.size ≤ 2000 ∧ M.Kn.fits k.s.c d) = true) := by show _ = _; simp only [decide_eq_true_eq]; exact hd
  have HD := Lib.hid hd
  clear hb hA hr hd
  go_enter Tryz.func73, Tryz.ntmps73
  go_wp2_with (first | (go_at_call 74; refine (v_KnownValid_spec k hk A c _ (HR.out.g (by repeat' (first | (with_reducible exact G.refl _) | (with_reducible assumption) | (with_reducible refine G.alloc ?_ _) | (with_reducible refine G.drew ?_) | (with_reducible refine G.drewN ?_ _) | (refine G.setCell ?_ (by first | (simp <;> done) | (simp <;> omega)) _) | (with_reducible refine G.trans ?_ (by with_reducible assumption)))))).mono ?_; rintro e w' ⟨rfl, h1⟩; obtain ⟨hch1, hfh1⟩ := gcell h1; try (have hzh1 : w.heap.size < w'.heap.size := by have := h1.size; (try simp at this); omega); try (have hyh1 : w.heap.size + 1 < w'.heap.size := by have := h1.size; (try simp at this); omega)) | (go_at_call 41; refine (v_DataFits_spec k.s hk.s d b HB.out hz true _ HR2.out).mono ?_; rintro e w' ⟨rfl, h2⟩; obtain ⟨hch2, hfh2⟩ := gcell h2; try (have hzh2 : w.heap.size < w'.heap.size := by have := h2.size; (try simp at this); omega); try (have hyh2 : w.heap.size + 1 < w'.heap.size := by have := h2.size; (try simp at this); omega)) | (go_at_call 91; refine (v_l4Learn k hk A c hc _ (HR.out.g (by repeat' (first | (with_reducible exact G.refl _) | (with_reducible assumption) | (with_reducible refine G.alloc ?_ _) | (with_reducible refine G.drew ?_) | (with_reducible refine G.drewN ?_ _) | (refine G.setCell ?_ (by first | (simp <;> done) | (simp <;> omega)) _) | (with_reducible refine G.trans ?_ (by with_reducible assumption))))) (fun a ha => by have := HA.out a ha; first | (have := h1.size; have := h2.size; simp at *; omega)) d HD.out.2 b HD.out.1 HB.out).mono ?_; rintro e w' ⟨⟨A1, c1, rfl, hR1⟩, h3⟩; obtain ⟨hch3, hfh3⟩ := gcell h3) | fail)
  refine bodyPost_ret (results_cell_tmp1 rfl _ _ (w.heap.size + 1) [.int .i64 (M.Kn.learnK k d).s.ord, .int .i64 (M.Kn.learnK k d).s.lit, .int .i64 (M.Kn.learnK k d).s.most, .slice A1 ((M.Kn.learnK k d).ps.length) c1, .int .i64 (M.Kn.learnK k d).base, .int .i64 (M.Kn.learnK k d).last] _ rfl (cells6 (by go_cell) (by go_cell) (by go_cell) (by go_cell) (by go_cell) (by go_cell)) Tryz.underlying40 rfl (by kernel_rfl)) rfl ?_
  refine ⟨⟨A1, c1, rfl, own_mono (own_set6 hR1 (fun e => by have := own_base hR1 e; have := h1.size; have := h2.size; simp at *; omega)) (by have := h1.size; have := h2.size; simp at *; omega)⟩, (by repeat' (first | (with_reducible exact G.refl _) | (with_reducible assumption) | (with_reducible refine G.alloc ?_ _) | (with_reducible refine G.drew ?_) | (with_reducible refine G.drewN ?_ _) | (refine G.setCell ?_ (by first | (simp <;> done) | (simp <;> omega)) _) | (with_reducible refine G.trans ?_ (by with_reducible assumption))))⟩
end

theorem cP_start (s : M.St) : cP (M.start s).ps = [] := rfl
theorem Rds.none (w : World) : Rds w 2 none 0 [] := ⟨rfl, fun h => absurd h (by omega)⟩

section
variable (s : M.St) (hs : s.Ok) (w : World)
include hs
set_option maxRecDepth 8000 in
set_option maxHeartbeats 1000000 in
theorem v_StartWith_spec (d : M.Bytes) (b : ByteArray) (hb : bs b = d) (hz : b.size ≤ 100000000) (hd : b.size ≤ 2000 ∧ M.Kn.fits s.c d) :
    Calls Tryz.prog 59 #[stV s, .string b] w fun e w' => (∃ A' c', e = .returned (.tuple #[knV (M.Kn.learnK (M.start s) d) A' c', .bool true]) ∧ w'.ownsRow w.heap.size 98 2 (.slice A' (M.Kn.learnK (M.start s) d).ps.length c') (M.Kn.learnK (M.start s) d).ps.length (cP (M.Kn.learnK (M.start s) d).ps)) ∧ G w w' := by
  have HB := Lib.hid hb
  have HD := Lib.hid hd
  obtain ⟨k2, hk2⟩ : ∃ k2, M.Kn.learnK (M.start s) d = k2 := ⟨_, rfl⟩
  rw [hk2]
  have HK := Lib.hid hk2
  clear hb hd hk2
  go_enter Tryz.func59, Tryz.ntmps59
  go_wp2_with (first | (go_at_call 72; refine (v_Start_spec s hs _).mono ?_; rintro e w' ⟨rfl, h1⟩; obtain ⟨hch1, hfh1⟩ := gcell h1; try (have hzh1 : w.heap.size < w'.heap.size := by have := h1.size; (try simp at this); omega); try (have hyh1 : w.heap.size + 1 < w'.heap.size := by have := h1.size; (try simp at this); omega)) | (go_at_call 73; refine (v_LearnKnown_spec (M.start s) (M.start_V hs) none 0 (Nat.le_refl _) _ (Rds.none _) (fun a h => by simp at h) d b HB.out hz HD.out).mono ?_; rintro e w' ⟨⟨A1, c1, rfl, hR1⟩, h3⟩; rw [HK.out] at hR1 ⊢; obtain ⟨hch3, hfh3⟩ := gcell h3) | fail)
  refine bodyPost_ret (results_cell_tmp1 rfl _ _ (w.heap.size + 1) [.int .i64 k2.s.ord, .int .i64 k2.s.lit, .int .i64 k2.s.most, .slice A1 (k2.ps.length) c1, .int .i64 k2.base, .int .i64 k2.last] _ rfl (cells6 (by go_cell) (by go_cell) (by go_cell) (by go_cell) (by go_cell) (by go_cell)) Tryz.underlying40 rfl (by kernel_rfl)) rfl ?_
  refine ⟨⟨A1, c1, rfl, own_mono (own_set6 hR1 (fun e => by have := own_base hR1 e; have := h1.size; simp at *; omega)) (by have := h1.size; simp at *; omega)⟩, (by repeat' (first | (with_reducible exact G.refl _) | (with_reducible assumption) | (with_reducible refine G.alloc ?_ _) | (with_reducible refine G.drew ?_) | (with_reducible refine G.drewN ?_ _) | (refine G.setCell ?_ (by first | (simp <;> done) | (simp <;> omega)) _) | (with_reducible refine G.trans ?_ (by with_reducible assumption))))⟩

set_option maxRecDepth 8000 in
set_option maxHeartbeats 1000000 in
theorem v_CompressWith_spec (d : M.Bytes) (b : ByteArray) (hb : bs b = d) (hz : b.size ≤ 100000000) (hd : b.size ≤ 2000 ∧ M.Kn.fits s.c d) (t : M.Bytes) (htl : t.length ≤ 1000) (bt : ByteArray) (hbt : bs bt = t) (r : Bool) (hr : decide (M.Kn.fits s.c t) = r) :
    Calls Tryz.prog 42 #[stV s, .string b, .string bt] w fun e w' => e = .returned (.tuple #[if r then S (M.Kn.compress (M.Kn.learnK (M.start s) d) t) else .string (ByteArray.mk #[]), .bool r]) ∧ G w w' := by
  have HB := Lib.hid hb
  have HD := Lib.hid hd
  have HT := Lib.hid hbt
  obtain ⟨k2, hk2⟩ : ∃ k2, M.Kn.learnK (M.start s) d = k2 := ⟨_, rfl⟩
  have hV := M.Kn.learnK_V (M.start_V hs) (d := d) hd.2
  rw [hk2] at hV ⊢
  have HV := Lib.hid hV
  have HR : Hid (decide (M.Kn.fits k2.s.c t) = r) := by show _ = _; rw [hV.2]; exact hr
  have HK := Lib.hid hk2
  clear hb hd hk2 hbt hr hV
  go_enter Tryz.func42, Tryz.ntmps42
  go_wp2_with (first | (go_at_call 59; refine (v_StartWith_spec s hs _ d b HB.out hz HD.out).mono ?_; rintro e w' ⟨⟨A1, c1, rfl, hR1⟩, h1⟩; rw [HK.out] at hR1 ⊢; have hcp := own_cap hR1; obtain ⟨hch1, hfh1⟩ := gcell h1) | (go_at_call 60; refine (v_Compress_spec k2 HV.out.1 A1 c1 hcp _ ((Rds.own hR1).g (by repeat' (first | (with_reducible exact G.refl _) | (with_reducible assumption) | (with_reducible refine G.alloc ?_ _) | (with_reducible refine G.drew ?_) | (with_reducible refine G.drewN ?_ _) | (refine G.setCell ?_ (by first | (simp <;> done) | (simp <;> omega)) _) | (with_reducible refine G.trans ?_ (by with_reducible assumption))))) (fun a ha => by have := own_lt hR1 (g := a.block) (by rw [ha]; rfl); simp; omega) t htl bt HT.out r HR.out).mono ?_; rintro e w' ⟨rfl, h2⟩; obtain ⟨hch2, hfh2⟩ := gcell h2; try (have hzh2 : w.heap.size < w'.heap.size := by have := h2.size; (try simp at this); omega); try (have hyh2 : w.heap.size + 1 < w'.heap.size := by have := h2.size; (try simp at this); omega)) | fail)
  all_goals
    go_ret2
    exact ⟨rfl, (by repeat' (first | (with_reducible exact G.refl _) | (with_reducible assumption) | (with_reducible refine G.alloc ?_ _) | (with_reducible refine G.drew ?_) | (with_reducible refine G.drewN ?_ _) | (refine G.setCell ?_ (by first | (simp <;> done) | (simp <;> omega)) _) | (with_reducible refine G.trans ?_ (by with_reducible assumption))))⟩
end
end Go.Proofs.YtlaijbkonapdbaaGreat
