/-
  FnExactAppendDataSaid is proved: for every input FnExactAppendData returns true, and each argument reads afterwards as it read before; no conditions. Part 4 of 25.
-/
import Derived.Test.YtlaijbkonapdbaaGreatA02
import Derived.Test.YtlaijbkonapdbaaGreatA03
import Derived.Laws.BitsAllLaws
import Derived.Laws.BitsLemmas
import Derived.Maps.AppendAt
import Derived.PlainAid

set_option linter.all false

namespace Go.Proofs.YtlaijbkonapdbaaGreat
open Go.RowKit
attribute [local go_sem] grow_cell grow_frozen

section
variable (k : M.Kn) (hk : k.V) (A : Option Addr) (c : Nat) (w : World) (hr : Rds w 2 A k.ps.length (cP k.ps))
include hk hr

set_option maxHeartbeats 1000000 in
theorem v_KnownValid_spec : Calls Tryz.prog 74 #[knV k A c] w fun e w' => e = .returned (.bool true) ∧ G w w' := by
  have hs := hk.s
  have hn : k.ps.length ≤ 1024 := by have h1 := hk.nxt_le; have h2 := hk.s.l1024; unfold M.Kn.nxt at h1; omega
  have hc := hs.c256
  have hl := hs.l1024
  have hl4 := hs.l4
  have he : k.s.e ≤ 257 := by rw [M.St.e_eq]; omega
  have hlen := hk.len
  have hb := hk.base
  have hd1 : decide ((k.s.l : Int) - k.s.e < k.ps.length) = false := by have := M.St.e_eq k.s; have := hs.c2; simp; omega
  have HR0 := Lib.hid hr
  clear hr
  go_enter Tryz.func74, Tryz.ntmps74
  go_wp2
  refine wp_gen (fun W => G w W ∧ KBox W w.heap.size k A c ∧ SBox W (w.heap.size + 1) k.s) ⟨(by repeat' (first | (with_reducible exact G.refl _) | (with_reducible assumption) | (with_reducible refine G.alloc ?_ _) | (with_reducible refine G.drew ?_) | (with_reducible refine G.drewN ?_ _) | (refine G.setCell ?_ (by first | (simp <;> done) | (simp <;> omega)) _) | (with_reducible refine G.trans ?_ (by with_reducible assumption)))), ⟨by simp; omega, by go_cell, by go_cell, by go_cell, by go_cell, by go_cell, by go_cell⟩, ⟨by simp, by go_cell, by go_cell, by go_cell⟩⟩ ?_
  rintro W ⟨hG, ⟨k9, k0, k1, k2, k3, k4, k5⟩, ⟨s9, s0, s1, s2⟩⟩
  refine wp_region_quiet_below (by kernel_rfl) (by kernel_rfl) ?_
  repeat (first | go_big_quiet_step ((first | (go_at_call 57; exact qcall (v_SettingValid_spec k.s hs _)) | (go_at_call 92; exact qcall (v_l1Last k.s hs _)) | (go_at_call 93; exact qcall (v_l1End k.s hs _)) | (go_at_call 22; exact qcall' (c_l1In_b _ _ _ true (by simp; omega) _)))) | quiet_step ((first | (go_at_call 57; exact qcall (v_SettingValid_spec k.s hs _)) | (go_at_call 92; exact qcall (v_l1Last k.s hs _)) | (go_at_call 93; exact qcall (v_l1End k.s hs _)) | (go_at_call 22; exact qcall' (c_l1In_b _ _ _ true (by simp; omega) _)))))
  refine wpQuiet_nil ?_
  intro w' hw'
  have h9 := G.of_regrown hw'
  clear hw'
  obtain ⟨hch9, hfh9⟩ := gcell h9
  go_wp2
  go_loopw [4] (fun i wr => ∃ m : Nat, i = .int .i64 m ∧ m ≤ k.ps.length ∧ G w wr ∧ KBox wr w.heap.size k A c ∧ SBox wr (w.heap.size + 1) k.s ∧ Rds wr 2 A k.ps.length (cP k.ps)) (fun i _ => k.ps.length - (intOf i).toNat)
  case atStart => exact ⟨0, rfl, by omega, (by repeat' (first | (with_reducible exact G.refl _) | (with_reducible assumption) | (with_reducible refine G.alloc ?_ _) | (with_reducible refine G.drew ?_) | (with_reducible refine G.drewN ?_ _) | (refine G.setCell ?_ (by first | (simp <;> done) | (simp <;> omega)) _) | (with_reducible refine G.trans ?_ (by with_reducible assumption)))), KBox.g ⟨k9, k0, k1, k2, k3, k4, k5⟩ h9, SBox.g ⟨s9, s0, s1, s2⟩ h9, HR0.out.g (by repeat' (first | (with_reducible exact G.refl _) | (with_reducible assumption) | (with_reducible refine G.alloc ?_ _) | (with_reducible refine G.drew ?_) | (with_reducible refine G.drewN ?_ _) | (refine G.setCell ?_ (by first | (simp <;> done) | (simp <;> omega)) _) | (with_reducible refine G.trans ?_ (by with_reducible assumption))))⟩
  case round =>
    obtain ⟨m, rfl, hm, hG2, hK2, hS2, hR2⟩ := hrel
    by_cases hlt : m < k.ps.length
    · have hp1 := hk.pv.pre m hlt
      have hp2 := hk.pv.byt m hlt
      obtain ⟨g, rfl, hg, hcell⟩ := hR2.at_ (by omega)
      obtain ⟨q1, q2⟩ := cP_get k.ps m hlt
      have d1 := hcell _ _ q1
      have d2 := hcell _ _ q2
      generalize hpp : k.ps[m] = p at hp1 hp2 q1 q2 d1 d2
      obtain ⟨⟨j9, j0, j1, j2, j3, j4, j5⟩, ⟨i9, i0, i1, i2⟩⟩ := And.intro hK2 hS2
      have HP := Lib.hid hp1
      have HC := Lib.hid hcell
      have HR := Lib.hid hR2
      clear hp1 hcell hR2 q1 q2 hpp
      go_wp2
      refine wp_region_quiet_below (by kernel_rfl) (by kernel_rfl) ?_
      repeat (first | go_big_quiet_step ((first | (go_at_call 94; exact qcall (v_l2Code k.s hs _ (by omega) _ true (by rw [hasI_nat]; exact decide_eq_true HP.out) _)) | (go_at_call 71; exact qcall (v_l1Clear k.s hs _)) | (go_at_call 22; exact qcall' (c_l1In_b _ _ _ true (by simp; omega) _)))) | quiet_step ((first | (go_at_call 94; exact qcall (v_l2Code k.s hs _ (by omega) _ true (by rw [hasI_nat]; exact decide_eq_true HP.out) _)) | (go_at_call 71; exact qcall (v_l1Clear k.s hs _)) | (go_at_call 22; exact qcall' (c_l1In_b _ _ _ true (by simp; omega) _)))))
      refine wpQuiet_nil ?_
      intro w' hw'
      have h8 := G.of_regrown hw'
      clear hw'
      obtain ⟨hch8, hfh8⟩ := gcell h8
      go_wp2
      go_roundw
      case rel => exact ⟨m + 1, by go_num, by omega, (by repeat' (first | (with_reducible exact G.refl _) | (with_reducible assumption) | (with_reducible refine G.alloc ?_ _) | (with_reducible refine G.drew ?_) | (with_reducible refine G.drewN ?_ _) | (refine G.setCell ?_ (by first | (simp <;> done) | (simp <;> omega)) _) | (with_reducible refine G.trans ?_ (by with_reducible assumption)))), KBox.g ⟨j9, j0, j1, j2, j3, j4, j5⟩ h8, SBox.g ⟨i9, i0, i1, i2⟩ h8, HR.out.g h8⟩
      case measure => simp [intOf]; omega
    · obtain ⟨⟨j9, j0, j1, j2, j3, j4, j5⟩, ⟨i9, i0, i1, i2⟩⟩ := And.intro hK2 hS2
      have HR := Lib.hid hR2
      clear hR2
      rcases hk.last with ⟨l1, l2⟩ | ⟨l1, l2⟩
      · have L1 : Hid (hasI k.s.c k.ps.length k.last = false) := by unfold Hid; rw [l1]; exact hasI_neg _ _
        have e1 : (k.last == -1) = true := by simp [l1]
        have e2 : ((k.base : Int) == (k.ps.length : Int)) = true := by simp [l2]
        have e3 : (k.base == k.ps.length) = true := by simp [l2]
        clear l1 l2
        go_wp2_with (first | (go_at_call 94; refine (v_l2Code k.s hs _ (by omega) _ false L1.out _).mono ?_; rintro e w' ⟨rfl, h7⟩; obtain ⟨hch7, hfh7⟩ := gcell h7; try (have hzh7 : w.heap.size < w'.heap.size := by have := h7.size; (try simp at this); omega); try (have hyh7 : w.heap.size + 1 < w'.heap.size := by have := h7.size; (try simp at this); omega)))
        go_ret
        exact ⟨rfl, (by repeat' (first | (with_reducible exact G.refl _) | (with_reducible assumption) | (with_reducible refine G.alloc ?_ _) | (with_reducible refine G.drew ?_) | (with_reducible refine G.drewN ?_ _) | (refine G.setCell ?_ (by first | (simp <;> done) | (simp <;> omega)) _) | (with_reducible refine G.trans ?_ (by with_reducible assumption))))⟩
      · have L1 : Hid (hasI k.s.c k.ps.length k.last = true) := by
          unfold Hid; rw [show k.last = ((k.last.toNat : Nat) : Int) by omega, hasI_nat]; exact decide_eq_true l2
        clear l2
        go_wp2_with (first | (go_at_call 94; refine (v_l2Code k.s hs _ (by omega) _ true L1.out _).mono ?_; rintro e w' ⟨rfl, h7⟩; obtain ⟨hch7, hfh7⟩ := gcell h7; try (have hzh7 : w.heap.size < w'.heap.size := by have := h7.size; (try simp at this); omega); try (have hyh7 : w.heap.size + 1 < w'.heap.size := by have := h7.size; (try simp at this); omega)))
        go_ret
        exact ⟨rfl, (by repeat' (first | (with_reducible exact G.refl _) | (with_reducible assumption) | (with_reducible refine G.alloc ?_ _) | (with_reducible refine G.drew ?_) | (with_reducible refine G.drewN ?_ _) | (refine G.setCell ?_ (by first | (simp <;> done) | (simp <;> omega)) _) | (with_reducible refine G.trans ?_ (by with_reducible assumption))))⟩

set_option maxHeartbeats 1000000 in
theorem v_KnownValid_impl : Calls Tryz.prog 62 #[knV k A c] w fun e w' => e = .returned (.bool true) ∧ G w w' := by
  have hs := hk.s
  have hn : k.ps.length ≤ 1024 := by have h1 := hk.nxt_le; have h2 := hk.s.l1024; unfold M.Kn.nxt at h1; omega
  have hc := hs.c256
  have hl := hs.l1024
  have hl4 := hs.l4
  have he : k.s.e ≤ 257 := by rw [M.St.e_eq]; omega
  have hlen := hk.len
  have hb := hk.base
  have hd1 : decide ((k.s.l : Int) - k.s.e < k.ps.length) = false := by have := M.St.e_eq k.s; have := hs.c2; simp; omega
  have HR0 := Lib.hid hr
  clear hr
  go_enter Tryz.func62, Tryz.ntmps62
  go_wp2
  refine wp_gen (fun W => G w W ∧ KBox W w.heap.size k A c ∧ SBox W (w.heap.size + 1) k.s) ⟨(by repeat' (first | (with_reducible exact G.refl _) | (with_reducible assumption) | (with_reducible refine G.alloc ?_ _) | (with_reducible refine G.drew ?_) | (with_reducible refine G.drewN ?_ _) | (refine G.setCell ?_ (by first | (simp <;> done) | (simp <;> omega)) _) | (with_reducible refine G.trans ?_ (by with_reducible assumption)))), ⟨by simp; omega, by go_cell, by go_cell, by go_cell, by go_cell, by go_cell, by go_cell⟩, ⟨by simp, by go_cell, by go_cell, by go_cell⟩⟩ ?_
  rintro W ⟨hG, ⟨k9, k0, k1, k2, k3, k4, k5⟩, ⟨s9, s0, s1, s2⟩⟩
  refine wp_region_quiet_below (by kernel_rfl) (by kernel_rfl) ?_
  repeat (first | go_big_quiet_step ((first | (go_at_call 61; exact qcall (v_SettingValid_impl k.s hs _)) | (go_at_call 77; exact qcall (v_LastCode k.s hs _)) | (go_at_call 78; exact qcall (v_EndCode k.s hs _)))) | quiet_step ((first | (go_at_call 61; exact qcall (v_SettingValid_impl k.s hs _)) | (go_at_call 77; exact qcall (v_LastCode k.s hs _)) | (go_at_call 78; exact qcall (v_EndCode k.s hs _)))))
  refine wpQuiet_nil ?_
  intro w' hw'
  have h9 := G.of_regrown hw'
  clear hw'
  obtain ⟨hch9, hfh9⟩ := gcell h9
  go_wp2
  go_loopw [25] (fun i wr => ∃ m : Nat, i = .int .i64 m ∧ m ≤ k.ps.length ∧ G w wr ∧ KBox wr w.heap.size k A c ∧ SBox wr (w.heap.size + 1) k.s ∧ Rds wr 2 A k.ps.length (cP k.ps)) (fun i _ => k.ps.length - (intOf i).toNat)
  case atStart => exact ⟨0, rfl, by omega, (by repeat' (first | (with_reducible exact G.refl _) | (with_reducible assumption) | (with_reducible refine G.alloc ?_ _) | (with_reducible refine G.drew ?_) | (with_reducible refine G.drewN ?_ _) | (refine G.setCell ?_ (by first | (simp <;> done) | (simp <;> omega)) _) | (with_reducible refine G.trans ?_ (by with_reducible assumption)))), KBox.g ⟨k9, k0, k1, k2, k3, k4, k5⟩ h9, SBox.g ⟨s9, s0, s1, s2⟩ h9, HR0.out.g (by repeat' (first | (with_reducible exact G.refl _) | (with_reducible assumption) | (with_reducible refine G.alloc ?_ _) | (with_reducible refine G.drew ?_) | (with_reducible refine G.drewN ?_ _) | (refine G.setCell ?_ (by first | (simp <;> done) | (simp <;> omega)) _) | (with_reducible refine G.trans ?_ (by with_reducible assumption))))⟩
  case round =>
    obtain ⟨m, rfl, hm, hG2, hK2, hS2, hR2⟩ := hrel
    by_cases hlt : m < k.ps.length
    · have hp1 := hk.pv.pre m hlt
      have hp2 := hk.pv.byt m hlt
      obtain ⟨g, rfl, hg, hcell⟩ := hR2.at_ (by omega)
      obtain ⟨q1, q2⟩ := cP_get k.ps m hlt
      have d1 := hcell _ _ q1
      have d2 := hcell _ _ q2
      generalize hpp : k.ps[m] = p at hp1 hp2 q1 q2 d1 d2
      obtain ⟨⟨j9, j0, j1, j2, j3, j4, j5⟩, ⟨i9, i0, i1, i2⟩⟩ := And.intro hK2 hS2
      have HP := Lib.hid hp1
      have HC := Lib.hid hcell
      have HR := Lib.hid hR2
      clear hp1 hcell hR2 q1 q2 hpp
      have hd2 : decide ((p.2 : Int) < 0) = false := by simp
      have hd3 : decide (k.s.c ≤ p.2) = false := by simp; omega
      go_wp2
      refine wp_gen (fun W2 => G wr W2 ∧ wr.heap.size < W2.heap.size ∧ W2.cell? ⟨wr.heap.size, 0, none⟩ = some (.int .i64 p.1) ∧ W2.cell? ⟨wr.heap.size, 1, none⟩ = some (.int .i64 p.2)) ⟨(by repeat' (first | (with_reducible exact G.refl _) | (with_reducible assumption) | (with_reducible refine G.alloc ?_ _) | (with_reducible refine G.drew ?_) | (with_reducible refine G.drewN ?_ _) | (refine G.setCell ?_ (by first | (simp <;> done) | (simp <;> omega)) _) | (with_reducible refine G.trans ?_ (by with_reducible assumption)))), by simp, by go_cell, by go_cell⟩ ?_
      rintro W2 ⟨hGW, hzW, p0, p1⟩
      obtain ⟨hc7, hf7⟩ := gcell hGW
      have z1 : w.heap.size < W2.heap.size := by omega
      have z2 : w.heap.size + 1 < W2.heap.size := by omega
      refine wp_region_quiet_below (by kernel_rfl) (by kernel_rfl) ?_
      repeat (first | go_big_quiet_step ((first | (go_at_call 79; exact qcall (v_hasWord k.s hs _ (by omega) _ true (by rw [hasI_nat]; exact decide_eq_true HP.out) _)) | (go_at_call 80; exact qcall (v_ClearCode k.s hs _)))) | quiet_step ((first | (go_at_call 79; exact qcall (v_hasWord k.s hs _ (by omega) _ true (by rw [hasI_nat]; exact decide_eq_true HP.out) _)) | (go_at_call 80; exact qcall (v_ClearCode k.s hs _)))))
      refine wpQuiet_nil ?_
      intro w' hw'
      have h8 := G.of_regrown hw'
      clear hw'
      obtain ⟨hch8, hfh8⟩ := gcell h8
      go_wp2
      go_roundw
      case rel => exact ⟨m + 1, by go_num, by omega, (by repeat' (first | (with_reducible exact G.refl _) | (with_reducible assumption) | (with_reducible refine G.alloc ?_ _) | (with_reducible refine G.drew ?_) | (with_reducible refine G.drewN ?_ _) | (refine G.setCell ?_ (by first | (simp <;> done) | (simp <;> omega)) _) | (with_reducible refine G.trans ?_ (by with_reducible assumption)))), (KBox.g ⟨j9, j0, j1, j2, j3, j4, j5⟩ hGW).g h8, (SBox.g ⟨i9, i0, i1, i2⟩ hGW).g h8, (HR.out.g hGW).g h8⟩
      case measure => simp [intOf]; omega
    · obtain ⟨⟨j9, j0, j1, j2, j3, j4, j5⟩, ⟨i9, i0, i1, i2⟩⟩ := And.intro hK2 hS2
      have HR := Lib.hid hR2
      clear hR2
      have f1 : decide ((k.base : Int) < 0) = false := by simp
      have f2 : decide (k.ps.length < k.base) = false := by simp; omega
      rcases hk.last with ⟨l1, l2⟩ | ⟨l1, l2⟩
      · have e1 : (k.last == -1) = true := by simp [l1]
        have e2 : ((k.base : Int) == (k.ps.length : Int)) = true := by simp [l2]
        have e3 : (k.base == k.ps.length) = true := by simp [l2]
        clear l1 l2
        go_wp2
        go_ret
        exact ⟨rfl, (by repeat' (first | (with_reducible exact G.refl _) | (with_reducible assumption) | (with_reducible refine G.alloc ?_ _) | (with_reducible refine G.drew ?_) | (with_reducible refine G.drewN ?_ _) | (refine G.setCell ?_ (by first | (simp <;> done) | (simp <;> omega)) _) | (with_reducible refine G.trans ?_ (by with_reducible assumption))))⟩
      · have L1 : Hid (hasI k.s.c k.ps.length k.last = true) := by
          unfold Hid; rw [show k.last = ((k.last.toNat : Nat) : Int) by omega, hasI_nat]; exact decide_eq_true l2
        have e1 : (k.last == -1) = false := by simp; omega
        clear l2
        go_wp2_with (first | (go_at_call 79; refine (v_hasWord k.s hs _ (by omega) _ true L1.out _).mono ?_; rintro e w' ⟨rfl, h7⟩; obtain ⟨hch7, hfh7⟩ := gcell h7; try (have hzh7 : w.heap.size < w'.heap.size := by have := h7.size; (try simp at this); omega); try (have hyh7 : w.heap.size + 1 < w'.heap.size := by have := h7.size; (try simp at this); omega)))
        go_ret
        exact ⟨rfl, (by repeat' (first | (with_reducible exact G.refl _) | (with_reducible assumption) | (with_reducible refine G.alloc ?_ _) | (with_reducible refine G.drew ?_) | (with_reducible refine G.drewN ?_ _) | (refine G.setCell ?_ (by first | (simp <;> done) | (simp <;> omega)) _) | (with_reducible refine G.trans ?_ (by with_reducible assumption))))⟩
end
end Go.Proofs.YtlaijbkonapdbaaGreat

namespace Go.Proofs.YtlaijbkonapdbaaGreat
open Go.RowKit
attribute [local go_sem] grow_cell grow_frozen

/-- the bytes of a string -/
def bs (b : ByteArray) : M.Bytes := b.data.toList
theorem bs_size (b : ByteArray) : b.size = (bs b).length := by show b.data.size = b.data.toList.length; rw [Array.length_toList]
@[simp] theorem bs_append (a b : ByteArray) : bs (a ++ b) = bs a ++ bs b := by unfold bs; rw [ByteArray.data_append, Array.toList_append]
@[simp] theorem bs_mk (l : List UInt8) : bs ⟨l.toArray⟩ = l := rfl
theorem bs_eq {b : ByteArray} {l : M.Bytes} (h : bs b = l) : Value.string b = S l := by
  subst h; rfl
theorem mk_bs (b : ByteArray) : (⟨(bs b).toArray⟩ : ByteArray) = b := by cases b; rfl
theorem bs_get (b : ByteArray) (i : Nat) (h : i < b.size) : (bs b)[i]? = some (b[i]) := by
  have h2 : i < b.data.size := h
  unfold bs
  rw [Array.getElem?_toList, Array.getElem?_eq_getElem h2]; rfl
theorem bs_extract (b : ByteArray) (i j : Nat) : bs (b.extract i j) = ((bs b).drop i).take (j - i) := by
  unfold bs; rw [ByteArray.data_extract, Array.toList_extract, List.extract_eq_take_drop]

/-! conversions of new bytes to a string -/
theorem conv_bytes (W : World) (a : Addr) (l c : Nat) (ns : List Int) (hl : ns.length = l) (h : ∀ j u, (ns.map (Value.int .u8))[j]? = some u → W.cell? (a.add j) = some u) :
    (convert 60 9 (.slice (some a) l c)).run Tryz.prog W = .ok (.string ⟨(ns.map fun n => UInt8.ofNat n.toNat).toArray⟩) W := by
  have hload : (loadCells a l).run Tryz.prog W = .ok (ns.map (Value.int .u8)).toArray W := by
    have := run_loadCells_list (P := Tryz.prog) W a (ns.map (Value.int .u8)) (fun j v hj => h j v hj)
    simpa [hl] using this
  rw [run_convert_bytes_string W _ _ 5 _ l c Tryz.underlying60 Tryz.underlying5 Tryz.underlying9, run_bytesToString W _ l c ns hload, foldl_push_bytes]
  simp [ByteArray.empty, ByteArray.emptyWithCapacity]
  rfl
theorem conv_one (W : World) (n : Int) : (convert 60 9 (.slice (some ⟨W.heap.size, 0, none⟩) 1 1)).run Tryz.prog (W.alloc (.cells #[.int .u8 n] 5)) =
    .ok (.string ⟨#[UInt8.ofNat n.toNat]⟩) (W.alloc (.cells #[.int .u8 n] 5)) := by
  have := conv_bytes (W.alloc (.cells #[.int .u8 n] 5)) ⟨W.heap.size, 0, none⟩ 1 1 [n] rfl (by
    intro j u hu
    rw [add_head]
    match j, hu with
    | 0, hu => simp at hu; subst hu; simp [World.cell?_alloc_at])
  simpa using this

theorem i64_and_nat (a b : Nat) (ha : a < 9223372036854775808) (hb : b < 9223372036854775808) : bits .and .i64 (a : Int) (b : Int) = ((a &&& b : Nat) : Int) := by
  have h1 : ∀ x : Nat, x < 9223372036854775808 → (BitVec.ofInt 64 (x : Int)).toNat = x := by
    intro x hx; rw [BitVec.ofInt_natCast, BitVec.toNat_ofNat]; exact Nat.mod_eq_of_lt (by omega)
  have hx : a &&& b < 2 ^ 63 := Nat.and_lt_two_pow _ (by omega)
  show IntKind.i64.wrap ((BitVec.ofInt 64 (a : Int) &&& BitVec.ofInt 64 (b : Int)).toNat : Int) = _
  rw [BitVec.toNat_and, h1 a ha, h1 b hb, IntKind.wrap_i64]
  omega
theorem bit_and (code m : Nat) (h : code < 9223372036854775808) : bits .and .i64 ((code : Int) / 2 ^ m) 1 = ((code.testBit m).toNat : Int) := by
  have e : ((code : Int) / 2 ^ m) = ((code / 2 ^ m : Nat) : Int) := by simp
  have e2 : (1 : Int) = ((1 : Nat) : Int) := rfl
  rw [e, e2, i64_and_nat _ _ (Nat.lt_of_le_of_lt (Nat.div_le_self _ _) h) (by omega), Nat.and_one_is_mod, Nat.testBit_eq_decide_div_mod_eq]
  rcases Nat.mod_two_eq_zero_or_one (code / 2 ^ m) with h0 | h0 <;> simp [h0]

attribute [local go_sem] conv_one

theorem bitsL_snoc (code m : Nat) : M.bitsL code (m + 1) = M.bitsL code m ++ [code.testBit m] := by simp [M.bitsL, List.range_succ]

theorem v_l1Code (o code n : Nat) (ho : o ≤ 1) (hn : n ≤ 10) (hcode : code < 1024) (w : World) :
    Calls Tryz.prog 118 #[.int .i64 o, .int .i64 code, .int .i64 n] w fun e w' => e = .returned (S ((M.bitsO o code n).map M.bch)) ∧ G w w' := by
  rcases (show o = 0 ∨ o = 1 by omega) with rfl | rfl
  · go_enter Tryz.func118, Tryz.ntmps118
    go_wp2
    go_loopw [7, 8] (fun s i wr => ∃ (m : Nat) (b : ByteArray), i = .int .i64 m ∧ m ≤ n ∧ s = .string b ∧ bs b = (M.bitsL code m).map M.bch ∧ G w wr) (fun _ i _ => n - (intOf i).toNat)
    case atStart => exact ⟨0, _, rfl, by omega, rfl, rfl, (by repeat' (first | (with_reducible exact G.refl _) | (with_reducible assumption) | (with_reducible refine G.alloc ?_ _) | (with_reducible refine G.drew ?_) | (with_reducible refine G.drewN ?_ _) | (refine G.setCell ?_ (by first | (simp <;> done) | (simp <;> omega)) _) | (with_reducible refine G.trans ?_ (by with_reducible assumption))))⟩
    case round =>
      obtain ⟨m, b, rfl, hm, rfl, hb, hG⟩ := hrel
      have hb1 : b.size ≤ 10 := by rw [bs_size, hb]; simp; omega
      have HB := Lib.hid hb
      clear hb
      by_cases hlt : m < n
      · have hand := bit_and code m (by omega)
        have HS := Lib.hid (bitsL_snoc code m)
        cases hbt : code.testBit m
        all_goals
          rw [hbt] at hand
          have HT := Lib.hid hbt
          clear hbt
          simp only [Bool.toNat_false, Bool.toNat_true] at hand
          go_wp2
          go_roundw
          case rel => exact ⟨m + 1, _, by go_num, by omega, rfl, by rw [bs_append, HB.out, HS.out, HT.out, List.map_append]; rfl, (by repeat' (first | (with_reducible exact G.refl _) | (with_reducible assumption) | (with_reducible refine G.alloc ?_ _) | (with_reducible refine G.drew ?_) | (with_reducible refine G.drewN ?_ _) | (refine G.setCell ?_ (by first | (simp <;> done) | (simp <;> omega)) _) | (with_reducible refine G.trans ?_ (by with_reducible assumption))))⟩
          case measure => simp [intOf]; omega
      · go_wp2
        go_ret
        obtain rfl : m = n := by omega
        exact ⟨congrArg _ (bs_eq HB.out), (by repeat' (first | (with_reducible exact G.refl _) | (with_reducible assumption) | (with_reducible refine G.alloc ?_ _) | (with_reducible refine G.drew ?_) | (with_reducible refine G.drewN ?_ _) | (refine G.setCell ?_ (by first | (simp <;> done) | (simp <;> omega)) _) | (with_reducible refine G.trans ?_ (by with_reducible assumption))))⟩
  · go_enter Tryz.func118, Tryz.ntmps118
    go_wp2
    go_loopw [7, 8] (fun s i wr => ∃ (m : Nat) (b : ByteArray), i = .int .i64 m ∧ m ≤ n ∧ s = .string b ∧ bs b = (M.bitsL code m).reverse.map M.bch ∧ G w wr) (fun _ i _ => n - (intOf i).toNat)
    case atStart => exact ⟨0, _, rfl, by omega, rfl, rfl, (by repeat' (first | (with_reducible exact G.refl _) | (with_reducible assumption) | (with_reducible refine G.alloc ?_ _) | (with_reducible refine G.drew ?_) | (with_reducible refine G.drewN ?_ _) | (refine G.setCell ?_ (by first | (simp <;> done) | (simp <;> omega)) _) | (with_reducible refine G.trans ?_ (by with_reducible assumption))))⟩
    case round =>
      obtain ⟨m, b, rfl, hm, rfl, hb, hG⟩ := hrel
      have hb1 : b.size ≤ 10 := by rw [bs_size, hb]; simp; omega
      have HB := Lib.hid hb
      clear hb
      by_cases hlt : m < n
      · have hand := bit_and code m (by omega)
        have HS := Lib.hid (bitsL_snoc code m)
        cases hbt : code.testBit m
        all_goals
          rw [hbt] at hand
          have HT := Lib.hid hbt
          clear hbt
          simp only [Bool.toNat_false, Bool.toNat_true] at hand
          go_wp2
          go_roundw
          case rel => exact ⟨m + 1, _, by go_num, by omega, rfl, by rw [bs_append, HB.out, HS.out, HT.out, List.reverse_append, List.map_append]; rfl, (by repeat' (first | (with_reducible exact G.refl _) | (with_reducible assumption) | (with_reducible refine G.alloc ?_ _) | (with_reducible refine G.drew ?_) | (with_reducible refine G.drewN ?_ _) | (refine G.setCell ?_ (by first | (simp <;> done) | (simp <;> omega)) _) | (with_reducible refine G.trans ?_ (by with_reducible assumption))))⟩
          case measure => simp [intOf]; omega
      · go_wp2
        go_ret
        obtain rfl : m = n := by omega
        exact ⟨congrArg _ (bs_eq HB.out), (by repeat' (first | (with_reducible exact G.refl _) | (with_reducible assumption) | (with_reducible refine G.alloc ?_ _) | (with_reducible refine G.drew ?_) | (with_reducible refine G.drewN ?_ _) | (refine G.setCell ?_ (by first | (simp <;> done) | (simp <;> omega)) _) | (with_reducible refine G.trans ?_ (by with_reducible assumption))))⟩
end Go.Proofs.YtlaijbkonapdbaaGreat

namespace Go.Proofs.YtlaijbkonapdbaaGreat
open Go.RowKit
attribute [local go_sem] grow_cell grow_frozen conv_one

/-! ## a row of the call's own that grows: frames -/
def GR (w w' : World) (r : Option Nat) : Prop := w.grownBy w' r
def VR (w : World) (r : Option Nat) (v : Value) : Prop := ∀ g, v.ownBlock = some g → (r = some g ∨ w.heap.size ≤ g)
theorem GR.refl (w : World) (r : Option Nat) : GR w w r := ⟨rfl, rfl, rfl, Nat.le_refl _, fun _ _ _ => rfl⟩
theorem VR.self (w : World) (v : Value) : VR w v.ownBlock v := fun _ h => Or.inl h
theorem VR.nil (w : World) (r : Option Nat) : VR w r (.slice none 0 0) := fun g h => by simp [Value.ownBlock] at h
theorem GR.size {a b : World} {r : Option Nat} (h : GR a b r) : a.heap.size ≤ b.heap.size := World.grownBy.size h
theorem GR.g {a b c : World} {r : Option Nat} (h : GR a b r) (k : G b c) : GR a c r := by
  have h' : a.grownBy b r := h
  have k' : Below b.heap.size b c := k
  exact ⟨k'.os.trans h'.os, k'.tape.trans h'.tape, k'.output.trans h'.output, Nat.le_trans h'.size k'.size, fun i hi hne => (k'.block i (Nat.lt_of_lt_of_le hi h'.size)).trans (h'.block i hi hne)⟩
theorem GR.step {a b c : World} {r : Option Nat} {v : Value} (h : GR a b r) (hv : VR a r v) (k : b.grownBy c v.ownBlock) : GR a c r := by
  have h' : a.grownBy b r := h
  refine ⟨k.os.trans h'.os, k.tape.trans h'.tape, k.output.trans h'.output, Nat.le_trans h'.size k.size, fun i hi hne => (k.block i (Nat.lt_of_lt_of_le hi h'.size) ?_).trans (h'.block i hi hne)⟩
  intro e
  rcases hv i e.symm with h1 | h1
  · exact hne h1.symm
  · omega
theorem VR.step {a b : World} {r : Option Nat} {v v' : Value} (hs : a.heap.size ≤ b.heap.size) (hv : VR a r v) (k : v'.ownBlock = v.ownBlock ∨ v'.ownBlock = some b.heap.size) : VR a r v' := by
  intro g hg
  rcases k with k | k
  · exact hv g (k.symm.trans hg)
  · rw [k] at hg; injection hg with hg; right; omega
theorem VR.trans {a b : World} {r : Option Nat} {v v' : Value} (hv : VR a r v) (hs : a.heap.size ≤ b.heap.size) (k : VR b v.ownBlock v') : VR a r v' := by
  intro g hg
  rcases k g hg with h | h
  · exact hv g h
  · right; omega
theorem GR.toG {a b : World} (h : GR a b none) : G a b := by
  have h' : a.grownBy b none := h
  exact ⟨h'.os, h'.tape, h'.output, h'.size, fun k hk => h'.block k hk (by simp)⟩
theorem GR.of_g {a b : World} (h : G a b) (r : Option Nat) : GR a b r := (GR.refl a r).g h
theorem GR.trans {a b c : World} {r : Option Nat} (h : GR a b r) (k : GR b c r) : GR a c r := by
  have h' : a.grownBy b r := h
  have k' : b.grownBy c r := k
  exact ⟨k'.os.trans h'.os, k'.tape.trans h'.tape, k'.output.trans h'.output, Nat.le_trans h'.size k'.size, fun i hi hne => (k'.block i (Nat.lt_of_lt_of_le hi h'.size) hne).trans (h'.block i hi hne)⟩
theorem GR.far {a b : World} {r : Option Nat} (h : GR a b r) {k : Nat} (hk : k < a.heap.size) (hr : r ≠ some k) : b.heap[k]? = a.heap[k]? := World.grownBy.block h k hk (fun e => hr e.symm)
theorem GR.cell {a b : World} {r : Option Nat} (h : GR a b r) {g : Nat} (hk : g < a.heap.size) (hr : r ≠ some g) (o : Nat) : b.cell? ⟨g, o, none⟩ = a.cell? ⟨g, o, none⟩ := World.cell?_of_block (h.far hk hr)
theorem GR.frozen {a b : World} {r : Option Nat} (h : GR a b r) {g : Nat} (hk : g < a.heap.size) (hr : r ≠ some g) (o : Nat) : b.frozen? ⟨g, o, none⟩ = a.frozen? ⟨g, o, none⟩ := World.frozen?_of_block (h.far hk hr)
/-- what is owned elsewhere stays owned -/
theorem own_gr {w w' : World} {base : Nat} {e : TypeId} {size n : Nat} {v : Value} {xs : List Value} {r : Option Nat} (h : w.ownsRow base e size v n xs) (hg : GR w w' r) (hne : v.ownBlock = none ∨ v.ownBlock ≠ r) : w'.ownsRow base e size v n xs := h.kept hg hne

theorem int_info : (Tryz.prog.info? 3).map (fun i => (i.zero, i.size, i.bytes)) = some (some (.int .i64 0), 1, 8) := by kernel_rfl
theorem u8_info : (Tryz.prog.info? 5).map (fun i => (i.zero, i.size, i.bytes)) = some (some (.int .u8 0), 1, 1) := by kernel_rfl
theorem pair_info : (Tryz.prog.info? 98).map (fun i => (i.zero, i.size, i.bytes)) = some (some (.agg #[.int .i64 0, .int .i64 0]), 2, 16) := by kernel_rfl

section
variable {ops : Array Oper} {rest : List Oper} {o : Oper} {a : Act} {Q : Exit → Act → World → Prop} {w : World}
theorem app_u8 (hgd : o.guard = none) (s x : Operand) (ho : o.op = .call { callee := .builtin .append, args := #[s, x], argTypes := #[60, 60] })
    (base : Nat) (v : Value) (n : Nat) (xs : List Value) (hs : a.eval s = v) (hown : w.ownsRow base 5 1 v n xs)
    (ad : Addr) (m c : Nat) (news : List Value) (hx : a.eval x = .slice (some ad) m c) (hl : news.length = m) (hnews : ∀ j u, news[j]? = some u → w.cell? (ad.add j) = some u) (h1 : ∀ u ∈ news, u.oneCell' = true)
    (hlen : n + m ≤ 100000000) (hbase : base ≤ w.heap.size)
    (h : ∀ v' w', w'.ownsRow base 5 1 v' (n + m) (xs ++ news) → w.grownBy w' v.ownBlock → (v'.ownBlock = v.ownBlock ∨ v'.ownBlock = some w.heap.size) → wpList Tryz.prog ops Q rest (a.put o.dst v') w') :
    wpList Tryz.prog ops Q (o :: rest) a w := by
  obtain ⟨i0, hi, hz0, hz1, hz2⟩ := info_parts u8_info
  exact wpList_append_own_at w hgd s x _ ho base _ i0 _ 1 1 Tryz.underlying60 hi hz0 hz1 hz2 rfl (by omega) v n xs hs hown ad m c news hx (by omega) hnews h1 (by simp only [maxLen]; omega) (by omega) hbase
    (fun v' w' a1 a2 _ a4 => h v' w' a1 a2 a4)
theorem app_int (hgd : o.guard = none) (s x : Operand) (ho : o.op = .call { callee := .builtin .append, args := #[s, x], argTypes := #[104, 104] })
    (base : Nat) (v : Value) (n : Nat) (xs : List Value) (hs : a.eval s = v) (hown : w.ownsRow base 3 1 v n xs)
    (ad : Addr) (m c : Nat) (news : List Value) (hx : a.eval x = .slice (some ad) m c) (hl : news.length = m) (hnews : ∀ j u, news[j]? = some u → w.cell? (ad.add j) = some u) (h1 : ∀ u ∈ news, u.oneCell' = true)
    (hlen : n + m ≤ 100000000) (hbase : base ≤ w.heap.size)
    (h : ∀ v' w', w'.ownsRow base 3 1 v' (n + m) (xs ++ news) → w.grownBy w' v.ownBlock → (v'.ownBlock = v.ownBlock ∨ v'.ownBlock = some w.heap.size) → wpList Tryz.prog ops Q rest (a.put o.dst v') w') :
    wpList Tryz.prog ops Q (o :: rest) a w := by
  obtain ⟨i0, hi, hz0, hz1, hz2⟩ := info_parts int_info
  exact wpList_append_own_at w hgd s x _ ho base _ i0 _ 1 8 Tryz.underlying104 hi hz0 hz1 hz2 rfl (by omega) v n xs hs hown ad m c news hx (by omega) hnews h1 (by simp only [maxLen]; omega) (by omega) hbase
    (fun v' w' a1 a2 _ a4 => h v' w' a1 a2 a4)
end

theorem cB_snoc (l : M.Bytes) (b : UInt8) : cB (l ++ [b]) = cB l ++ [.int .u8 b.toNat] := by simp [cB]
theorem cI_snoc (l : List Nat) (b : Nat) : cI (l ++ [b]) = cI l ++ [.int .i64 b] := by simp [cI]

theorem v_place (o i n p : Nat) (ho : o ≤ 1) (hi : i < n) (hn : n ≤ 20) (hp : 2 ^ (if o = 0 then i else n - 1 - i) = p) (w : World) :
    Calls Tryz.prog 125 #[.int .i64 o, .int .i64 i, .int .i64 n] w fun e w' => e = .returned (.int .i64 p) ∧ w = w' := by
  rcases (show o = 0 ∨ o = 1 by omega) with rfl | rfl
  · have HP := Lib.hid hp
    clear hp
    go_enter Tryz.func125, Tryz.ntmps125
    go_wp2
    go_ret
    exact ⟨ret_int (wrap_two i p (by omega) (by simpa using HP.out)), rfl⟩
  · have HP := Lib.hid hp
    clear hp
    obtain ⟨j, hj⟩ : ∃ j, n - 1 - i = j := ⟨_, rfl⟩
    have hj2 : (n : Int) - 1 - i = j := by omega
    have HJ := Lib.hid hj
    have HJ2 := Lib.hid hj2
    clear hj hj2
    go_enter Tryz.func125, Tryz.ntmps125
    go_wp2
    go_ret
    refine ⟨ret_int ?_, rfl⟩
    have h2 : ((n : Int) - 1 - i).toNat = j := by have := HJ2.out; omega
    have h3 : 2 ^ j = p := by have := HP.out; rw [if_neg (by omega), HJ.out] at this; exact this
    have h4 : j ≤ 20 := by have := HJ.out; omega
    rw [show n - 1 - i = j from HJ.out]
    exact wrap_two j p h4 h3

/-- a bit in an order -/
def bitAt (o code n i : Nat) : Bool := code.testBit (if o = 0 then i else n - 1 - i)
theorem bitsO_get (o code n i : Nat) (h : i < n) : (M.bitsO o code n)[i]? = some (bitAt o code n i) := by
  unfold M.bitsO bitAt M.bitsL
  by_cases ho : o = 0
  · simp [ho, h]
  · rw [if_neg ho, if_neg ho, List.getElem?_reverse (by simpa using h)]
    simp [show n - 1 - i < n by omega]
theorem bitsO_take_succ (o code n i : Nat) (h : i < n) : (M.bitsO o code n).take (i + 1) = (M.bitsO o code n).take i ++ [bitAt o code n i] := by
  rw [List.take_add_one, bitsO_get o code n i h]; rfl
theorem bit_test (code j p : Nat) (hc : code < 9223372036854775808) (hp : 2 ^ j = p) (hj : j ≤ 20) : (bits .and .i64 (code : Int) (p : Int) != 0) = code.testBit j := by
  have := two20 j hj
  rw [i64_and_nat code p hc (by omega)]
  have e : ((code &&& p : Nat) : Int) != 0 ↔ (code &&& p) ≠ 0 := by simp
  have h2 : (code &&& p) ≠ 0 ↔ code.testBit j = true := by
    rw [← hp]
    constructor
    · intro h
      obtain ⟨i, hi⟩ := Nat.exists_testBit_of_ne_zero h
      rw [Nat.testBit_and, Nat.testBit_two_pow] at hi
      simp at hi
      rw [hi.2]; exact hi.1
    · intro h h0
      have : (code &&& 2 ^ j).testBit j = true := by rw [Nat.testBit_and, h, Nat.testBit_two_pow_self]; rfl
      rw [h0] at this; simp at this
  cases hb : code.testBit j
  · have : (code &&& p) = 0 := by
      rcases Nat.eq_zero_or_pos (code &&& p) with h0 | h0
      · exact h0
      · have := h2.1 (by omega); rw [hb] at this; cases this
    simp [this]
  · have := h2.2 hb
    simp; omega

set_option maxHeartbeats 1000000 in
theorem v_appendBits (o code n : Nat) (ho : o ≤ 1) (hn : n ≤ 10) (hcode : code < 1024) (base : Nat) (v : Value) (l : M.Bytes) (hl : l.length ≤ 1000000) (w : World)
    (hown : w.ownsRow base 5 1 v l.length (cB l)) (hbase : base ≤ w.heap.size) :
    Calls Tryz.prog 106 #[v, .int .i64 o, .int .i64 code, .int .i64 n] w fun e w' => ∃ v', e = .returned v' ∧ w'.ownsRow base 5 1 v' (l ++ (M.bitsO o code n).map M.bch).length (cB (l ++ (M.bitsO o code n).map M.bch)) ∧
      GR w w' v.ownBlock ∧ VR w v.ownBlock v' := by
  go_enter Tryz.func106, Tryz.ntmps106
  go_wp2
  go_loopw [0, 12] (fun u i wr => ∃ (m : Nat), i = .int .i64 m ∧ m ≤ n ∧ wr.ownsRow base 5 1 u (l ++ ((M.bitsO o code n).take m).map M.bch).length (cB (l ++ ((M.bitsO o code n).take m).map M.bch)) ∧ GR w wr v.ownBlock ∧ VR w v.ownBlock u) (fun _ i _ => n - (intOf i).toNat)
  case atStart => exact ⟨0, rfl, by omega, by simpa using hown, GR.refl _ _, VR.self _ _⟩
  case round =>
    obtain ⟨m, rfl, hm, hown2, hG, hV⟩ := hrel
    by_cases hlt : m < n
    · obtain ⟨p, hp⟩ : ∃ p, 2 ^ (if o = 0 then m else n - 1 - m) = p := ⟨_, rfl⟩
      have hbt := bit_test code _ p (by omega) hp (by split <;> omega)
      have HP := Lib.hid hp
      have HS := Lib.hid (bitsO_take_succ o code n m hlt)
      have hlen : (l ++ ((M.bitsO o code n).take m).map M.bch).length ≤ 1000010 := by simp; omega
      have hsz := hG.size
      generalize hL : l ++ ((M.bitsO o code n).take m).map M.bch = L at hown2 hlen
      have HL := Lib.hid hL
      clear hp hL
      cases hb : bitAt o code n m
      all_goals
        have HB := Lib.hid hb
        unfold bitAt at hb
        rw [hb] at hbt
        clear hb
        go_wp2_with (first | (go_at_call 125; refine (v_place o m n p ho hlt (by omega) HP.out _).mono ?_; rintro e w' ⟨rfl, rfl⟩) | (at_builtin; at_builtin; refine app_u8 rfl (.tmp 22) (.tmp 24) rfl base _ _ _ rfl (hown2.alloc _) ⟨_, 0, none⟩ 1 1 [_] rfl rfl (cell_one_new _ _ _) (by simp [Value.oneCell']) (by omega) (by simp; omega) ?_; intro v1 w1 hownw1 hgw1 hatw1))
        go_roundw
        case rel =>
          refine ⟨m + 1, by go_num, by omega, ?_, (hG.g ((G.refl _).alloc _)).step hV hgw1, VR.step (by simp; omega) hV hatw1⟩
          have e : l ++ ((M.bitsO o code n).take (m + 1)).map M.bch = L ++ [M.bch (bitAt o code n m)] := by rw [HS.out, ← HL.out, List.map_append, ← List.append_assoc]; rfl
          rw [e, cB_snoc, List.length_append, HB.out]
          exact hownw1
        case measure => simp [intOf]; omega
    · go_wp2
      go_ret
      obtain rfl : m = n := by omega
      refine ⟨_, rfl, ?_, hG, hV⟩
      have e : (M.bitsO o code m).take m = M.bitsO o code m := List.take_of_length_le (by simp)
      rw [e] at hown2
      exact hown2
end Go.Proofs.YtlaijbkonapdbaaGreat

namespace Go.Proofs.YtlaijbkonapdbaaGreat
open Go.RowKit
attribute [local go_sem] grow_cell grow_frozen conv_one
open Go.PlainAid (bt get_bt bt_nonneg bt_le)

theorem bt_bs {b : ByteArray} {l : M.Bytes} (h : bs b = l) (i : Nat) (x : UInt8) (hi : l[i]? = some x) : bt b i = x.toNat := by
  have hl : i < l.length := by
    rcases Nat.lt_or_ge i l.length with h1 | h1
    · exact h1
    · rw [List.getElem?_eq_none h1] at hi; cases hi
  have hs : i < b.size := by rw [bs_size, h]; exact hl
  have := bs_get b i hs
  rw [h, hi] at this
  injection this with this
  unfold bt
  rw [dif_pos hs, this]

/-- what the number of bits is read from, in the order of the loop -/
def seqO (o : Nat) (l : List Bool) : List Bool := if o = 0 then l.reverse else l
theorem seqO_len (o : Nat) (l : List Bool) : (seqO o l).length = l.length := by unfold seqO; split <;> simp
theorem numO_seq (o : Nat) (l : List Bool) : M.numO o l = M.numL (seqO o l).reverse := by unfold M.numO seqO; split <;> simp
theorem seq_step (l : List Bool) (m : Nat) (x : Bool) (h : l[m]? = some x) : M.numL (l.take (m + 1)).reverse = x.toNat + 2 * M.numL (l.take m).reverse := by
  rw [List.take_add_one, h]; simp [M.numL]
theorem bch_nat (b : Bool) : (M.bch b).toNat = 48 + b.toNat := by cases b <;> rfl

theorem numL_10 (l : List Bool) (h : l.length ≤ 10) : M.numL l ≤ 1024 := by
  have h1 := M.numL_lt l
  have h2 := Nat.pow_le_pow_right (show 0 < 2 by omega) h
  have h3 : 2 ^ 10 = 1024 := by decide
  omega

set_option maxHeartbeats 1000000 in
theorem v_l1Number (o : Nat) (ho : o ≤ 1) (l : List Bool) (hl : l.length ≤ 10) (b : ByteArray) (hb : bs b = l.map M.bch) (w : World) :
    Calls Tryz.prog 116 #[.int .i64 o, .string b] w fun e w' => e = .returned (.int .i64 (M.numO o l)) ∧ w = w' := by
  have hsz : b.size = l.length := by rw [bs_size, hb, List.length_map]
  obtain ⟨n, hn⟩ : ∃ n, n = b.size := ⟨_, rfl⟩
  have hn1 : b.size ≤ 10 := by omega
  have HS := Lib.hid hsz
  have HB := Lib.hid hb
  have hget := get_bt b
  clear hsz hb hn
  rcases (show o = 0 ∨ o = 1 by omega) with rfl | rfl
  · go_enter Tryz.func116, Tryz.ntmps116
    go_wp2
    go_loop [5, 6] (fun x i => ∃ (m : Nat), i = .int .i64 m ∧ m ≤ b.size ∧ x = .int .i64 (M.numL (l.reverse.take m).reverse)) (fun _ i => b.size - (intOf i).toNat)
    case atStart => exact ⟨0, rfl, by omega, by simp [M.numL]⟩
    case round =>
      obtain ⟨m, rfl, hm, rfl⟩ := hrel
      have hx : M.numL (l.reverse.take m).reverse ≤ 1024 := numL_10 _ (by simp; omega)
      obtain ⟨x, HX⟩ : ∃ x, Hid (M.numL (l.reverse.take m).reverse = x) := ⟨_, rfl⟩
      rw [HX.out] at hx ⊢
      by_cases hlt : m < b.size
      · obtain ⟨y, hy⟩ : ∃ y, l.reverse[m]? = some y := ⟨_, List.getElem?_eq_getElem (by have := HS.out; simp; omega)⟩
        have hbt := bt_bs HB.out (b.size - 1 - m) (M.bch y) (by rw [List.getElem?_map]; have := HS.out; rw [List.getElem?_reverse (by omega)] at hy; rw [this, hy]; rfl)
        rw [bch_nat] at hbt
        have HY := Lib.hid hy
        clear hy
        cases y
        all_goals
          simp only [Bool.toNat_false, Bool.toNat_true] at hbt
          go_wp2
          go_round
          case rel => exact ⟨m + 1, by go_num, by omega, by rw [seq_step _ _ _ HY.out, HX.out]; first | (simp; done) | (simp; omega)⟩
          case measure => simp [intOf]; omega
      · go_wp2
        go_ret
        obtain rfl : m = b.size := by omega
        have e := HX.out
        rw [List.take_of_length_le (by have := HS.out; simp; omega)] at e
        exact ⟨ret_int (by rw [← e, numO_seq]; unfold seqO; simp), rfl⟩
  · go_enter Tryz.func116, Tryz.ntmps116
    go_wp2
    go_loop [5, 6] (fun x i => ∃ (m : Nat), i = .int .i64 m ∧ m ≤ b.size ∧ x = .int .i64 (M.numL (l.take m).reverse)) (fun _ i => b.size - (intOf i).toNat)
    case atStart => exact ⟨0, rfl, by omega, by simp [M.numL]⟩
    case round =>
      obtain ⟨m, rfl, hm, rfl⟩ := hrel
      have hx : M.numL (l.take m).reverse ≤ 1024 := numL_10 _ (by simp; omega)
      obtain ⟨x, HX⟩ : ∃ x, Hid (M.numL (l.take m).reverse = x) := ⟨_, rfl⟩
      rw [HX.out] at hx ⊢
      by_cases hlt : m < b.size
      · obtain ⟨y, hy⟩ : ∃ y, l[m]? = some y := ⟨_, List.getElem?_eq_getElem (by have := HS.out; simp; omega)⟩
        have hbt := bt_bs HB.out (m) (M.bch y) (by rw [List.getElem?_map]; have := HS.out; rw [hy]; rfl)
        rw [bch_nat] at hbt
        have HY := Lib.hid hy
        clear hy
        cases y
        all_goals
          simp only [Bool.toNat_false, Bool.toNat_true] at hbt
          go_wp2
          go_round
          case rel => exact ⟨m + 1, by go_num, by omega, by rw [seq_step _ _ _ HY.out, HX.out]; first | (simp; done) | (simp; omega)⟩
          case measure => simp [intOf]; omega
      · go_wp2
        go_ret
        obtain rfl : m = b.size := by omega
        have e := HX.out
        rw [List.take_of_length_le (by have := HS.out; simp; omega)] at e
        exact ⟨ret_int (by rw [← e, numO_seq]; unfold seqO; simp), rfl⟩

end Go.Proofs.YtlaijbkonapdbaaGreat

namespace M
theorem packB_append (o : Nat) (a b : List Bool) (h : a.length % 8 = 0) : packB o (a ++ b) = packB o a ++ packB o b := by
  generalize hn : a.length = n
  induction n using Nat.strongRecOn generalizing a with
  | _ n ih =>
    subst hn
    by_cases ha : a = []
    · subst ha; simp [packB_nil]
    · have h0 : a.length ≠ 0 := by simpa using ha
      have h8 : 8 ≤ a.length := by omega
      rw [packB_cons o (a ++ b) (by simp [ha]), packB_cons o a ha, List.drop_append_of_le_length h8, List.take_append_of_le_length h8,
        ih (a.drop 8).length (by simp; omega) (a.drop 8) (by simp; omega) rfl]
      have e1 : 8 - (a ++ b).length = 0 := by simp; omega
      have e2 : 8 - a.length = 0 := by omega
      rw [e1, e2]; rfl
theorem packB_chunk (o : Nat) (l : List Bool) (h0 : l ≠ []) (h : l.length ≤ 8) : packB o l = [UInt8.ofNat (numO o (l ++ List.replicate (8 - l.length) false))] := by
  rw [packB_cons o l h0, List.take_of_length_le h, List.drop_of_length_le h, packB_nil]
theorem packB_step (o : Nat) (l : List Bool) (k : Nat) (h : 8 * k < l.length) :
    packB o (l.take (8 * (k + 1))) = packB o (l.take (8 * k)) ++ [UInt8.ofNat (numO o ((l.drop (8 * k)).take 8 ++ List.replicate (8 - (l.length - 8 * k)) false))] := by
  have e : l.take (8 * (k + 1)) = l.take (8 * k) ++ (l.drop (8 * k)).take 8 := by rw [show 8 * (k + 1) = 8 * k + 8 by omega, List.take_add]
  have hl : ((l.drop (8 * k)).take 8).length = min 8 (l.length - 8 * k) := by simp
  have h3 : (l.drop (8 * k)).take 8 ≠ [] := by intro h2; rw [h2] at hl; simp at hl; omega
  rw [e, packB_append o _ _ (by simp; omega), packB_chunk o ((l.drop (8 * k)).take 8) h3 (by omega), hl]
  have : 8 - min 8 (l.length - 8 * k) = 8 - (l.length - 8 * k) := by omega
  rw [this]
theorem unpackB_append (o : Nat) (a b : List UInt8) : unpackB o (a ++ b) = unpackB o a ++ unpackB o b := by simp [unpackB]

theorem packB_pad (o : Nat) (l : List Bool) : packB o (l ++ List.replicate (missing l.length) false) = packB o l := by
  have hk : 8 * (l.length / 8) ≤ l.length := by omega
  have h1 : l = l.take (8 * (l.length / 8)) ++ l.drop (8 * (l.length / 8)) := (List.take_append_drop _ _).symm
  have h2 : (l.take (8 * (l.length / 8))).length % 8 = 0 := by rw [List.length_take]; omega
  generalize ha : l.take (8 * (l.length / 8)) = a at h1 h2
  generalize hb : l.drop (8 * (l.length / 8)) = b at h1
  have h3 : b.length < 8 := by rw [← hb]; simp; omega
  have h4 : missing l.length = missing b.length := by
    have : l.length = a.length + b.length := by rw [h1, List.length_append]
    unfold missing; omega
  rw [h4, h1, List.append_assoc, packB_append o a _ h2, packB_append o a _ h2]
  congr 1
  by_cases h0 : b = []
  · subst h0; rfl
  · have h5 : b.length ≠ 0 := by simpa using h0
    have h6 : missing b.length = 8 - b.length := by unfold missing; omega
    rw [packB_chunk o b h0 (by omega), packB_chunk o _ (by simp [h0]) (by rw [h6]; simp; omega), h6]
    have h7 : 8 - (b ++ List.replicate (8 - b.length) false).length = 0 := by simp; omega
    rw [h7]; simp

/-! sums of the values of digits -/
theorem numL_append (a b : List Bool) : numL (a ++ b) = numL a + 2 ^ a.length * numL b := by
  induction a with
  | nil => simp [numL]
  | cons x a ih => simp only [List.cons_append, numL, ih, List.length_cons, Nat.pow_succ, Nat.mul_add]; rw [Nat.mul_comm (2 ^ a.length) 2, Nat.mul_assoc]; omega
theorem numL_zeros (n : Nat) : numL (List.replicate n false) = 0 := by
  induction n with
  | zero => rfl
  | succ n ih => simp [List.replicate_succ, numL, ih]
def psum (o W : Nat) (l : List Bool) (m : Nat) : Nat := if o = 0 then numL (l.take m) else numL (l.take m).reverse * 2 ^ (W - m)
theorem psum_zero (o W : Nat) (l : List Bool) : psum o W l 0 = 0 := by unfold psum; simp [numL]
theorem psum_step (o W : Nat) (l : List Bool) (m : Nat) (x : Bool) (h : l[m]? = some x) (hW : m < W) : psum o W l (m + 1) = psum o W l m + x.toNat * 2 ^ (if o = 0 then m else W - 1 - m) := by
  have hl : m < l.length := by
    rcases Nat.lt_or_ge m l.length with h1 | h1
    · exact h1
    · rw [List.getElem?_eq_none h1] at h; cases h
  have e : l.take (m + 1) = l.take m ++ [x] := by rw [List.take_add_one, h]; rfl
  unfold psum
  rw [e]
  split
  · rw [numL_append, List.length_take, Nat.min_eq_left (by omega)]; simp [numL]; rw [Nat.mul_comm]
  · rw [List.reverse_append]
    simp only [List.reverse_cons, List.reverse_nil, List.nil_append, List.cons_append, numL]
    have e2 : W - m = (W - 1 - m) + 1 := by omega
    have e3 : W - (m + 1) = W - 1 - m := by omega
    rw [e2, e3, Nat.pow_succ, Nat.add_mul, Nat.add_comm]
    congr 1
    rw [Nat.mul_comm 2, Nat.mul_assoc, Nat.mul_comm 2]
theorem psum_all (o W : Nat) (l : List Bool) (_h : l.length ≤ W) : psum o W l l.length = numO o (l ++ List.replicate (W - l.length) false) := by
  unfold psum numO
  rw [List.take_of_length_le (Nat.le_refl _)]
  split
  · rw [numL_append, numL_zeros]; simp
  · rw [List.reverse_append, numL_append]
    simp [numL_zeros]; rw [Nat.mul_comm]
theorem psum_lt (o W : Nat) (l : List Bool) (m : Nat) (hm : m ≤ W) : psum o W l m < 2 ^ W := by
  unfold psum
  split
  · have h1 := numL_lt (l.take m)
    have h2 : (l.take m).length ≤ W := by simp; omega
    have h3 := Nat.pow_le_pow_right (show 0 < 2 by omega) h2
    omega
  · have h1 := numL_lt (l.take m).reverse
    have h2 : (l.take m).reverse.length ≤ m := by simp; omega
    have h3 := Nat.pow_le_pow_right (show 0 < 2 by omega) h2
    have h4 : numL (l.take m).reverse < 2 ^ m := by omega
    have h5 : 2 ^ W = 2 ^ m * 2 ^ (W - m) := by rw [← Nat.pow_add]; congr 1; omega
    rw [h5]
    exact Nat.mul_lt_mul_of_pos_right h4 (Nat.two_pow_pos _)
end M

namespace Go.Proofs.YtlaijbkonapdbaaGreat
open Go.RowKit
attribute [local go_sem] grow_cell grow_frozen conv_one
open Go.PlainAid (bt get_bt bt_nonneg bt_le)

theorem w10 (x : Nat) (h : x < 2 ^ 10) : x ≤ 1024 := by
  have h3 : 2 ^ 10 = 1024 := by decide
  omega
theorem pow10 (j : Nat) (h : j < 10) : 2 ^ j ≤ 512 := by
  have h2 := Nat.pow_le_pow_right (show 0 < 2 by omega) (show j ≤ 9 by omega)
  have h3 : 2 ^ 9 = 512 := by decide
  omega

set_option maxHeartbeats 1000000 in
theorem v_bitsNumber (o : Nat) (ho : o ≤ 1) (l : List Bool) (hl : l.length ≤ 10) (b : ByteArray) (hb : bs b = l.map M.bch) (w : World) :
    Calls Tryz.prog 129 #[.int .i64 o, .string b] w fun e w' => e = .returned (.int .i64 (M.numO o l)) ∧ w = w' := by
  have hsz : b.size = l.length := by rw [bs_size, hb, List.length_map]
  have hn1 : b.size ≤ 10 := by omega
  have HS := Lib.hid hsz
  have HB := Lib.hid hb
  have hget := get_bt b
  clear hsz hb
  go_enter Tryz.func129, Tryz.ntmps129
  go_wp2
  go_loop [5, 9] (fun x i => ∃ (m : Nat), i = .int .i64 m ∧ m ≤ b.size ∧ x = .int .i64 (M.psum o b.size l m)) (fun _ i => b.size - (intOf i).toNat)
  case atStart => exact ⟨0, rfl, by omega, by rw [M.psum_zero]; rfl⟩
  case round =>
    obtain ⟨m, rfl, hm, rfl⟩ := hrel
    have hx : M.psum o b.size l m ≤ 1024 := w10 _ (Nat.lt_of_lt_of_le (M.psum_lt o b.size l m hm) (Nat.pow_le_pow_right (by omega) hn1))
    obtain ⟨x, HX⟩ : ∃ x, Hid (M.psum o b.size l m = x) := ⟨_, rfl⟩
    rw [HX.out] at hx ⊢
    by_cases hlt : m < b.size
    · obtain ⟨y, hy⟩ : ∃ y, l[m]? = some y := ⟨_, List.getElem?_eq_getElem (by have := HS.out; omega)⟩
      have hbt := bt_bs HB.out m (M.bch y) (by rw [List.getElem?_map, hy]; rfl)
      have HP := Lib.hid (M.psum_step o b.size l m y hy hlt)
      obtain ⟨p, hp⟩ : ∃ p, 2 ^ (if o = 0 then m else b.size - 1 - m) = p := ⟨_, rfl⟩
      have hp2 : p ≤ 512 := by rw [← hp]; exact pow10 _ (by split <;> omega)
      have HQ := Lib.hid hp
      rw [bch_nat] at hbt
      clear hy hp
      cases y
      all_goals
        simp only [Bool.toNat_false, Bool.toNat_true] at hbt
        go_wp2_with (go_at_call 125; refine (v_place o m b.size p ho hlt (by omega) HQ.out _).mono ?_; rintro e w' ⟨rfl, rfl⟩)
        go_round
        case rel => exact ⟨m + 1, by go_num, by omega, by rw [HP.out, HX.out, HQ.out]; first | (simp; done) | (simp; omega)⟩
        case measure => simp [intOf]; omega
    · go_wp2
      go_ret
      obtain rfl : m = b.size := by omega
      have e := HX.out
      rw [HS.out, M.psum_all o l.length l (Nat.le_refl _)] at e
      exact ⟨ret_int (by rw [← e]; simp), rfl⟩

theorem v_BitsValid (l : List Bool) (hl : l.length ≤ 32000) (b : ByteArray) (hb : bs b = l.map M.bch) (w : World) :
    Calls Tryz.prog 126 #[.string b] w fun e w' => e = .returned (.bool true) ∧ w = w' := by
  have hsz : b.size = l.length := by rw [bs_size, hb, List.length_map]
  have hn1 : b.size ≤ 32000 := by omega
  have HS := Lib.hid hsz
  have HB := Lib.hid hb
  have hget := get_bt b
  clear hsz hb
  go_enter Tryz.func126, Tryz.ntmps126
  go_wp2
  go_loop [9] (fun i => ∃ (m : Nat), i = .int .i64 m ∧ m ≤ b.size) (fun i => b.size - (intOf i).toNat)
  case atStart => exact ⟨0, rfl, by omega⟩
  case round =>
    obtain ⟨m, rfl, hm⟩ := hrel
    by_cases hlt : m < b.size
    · obtain ⟨y, hy⟩ : ∃ y, l[m]? = some y := ⟨_, List.getElem?_eq_getElem (by have := HS.out; omega)⟩
      have hbt := bt_bs HB.out m (M.bch y) (by rw [List.getElem?_map, hy]; rfl)
      rw [bch_nat] at hbt
      clear hy
      cases y
      all_goals
        simp only [Bool.toNat_false, Bool.toNat_true] at hbt
        go_wp2
        go_round
        case rel => exact ⟨m + 1, by go_num, by omega⟩
        case measure => simp [intOf]; omega
    · go_wp2
      go_ret
      exact ⟨rfl, rfl⟩

/-- bytes of the call's own, made a string -/
theorem conv_own (W : World) (base : Nat) (A : Option Addr) (n c : Nat) (l : M.Bytes) (h : W.ownsRow base 5 1 (.slice A n c) n (cB l)) :
    (convert 60 9 (.slice A n c)).run Tryz.prog W = .ok (S l) W := by
  have hl : l.length = n := by have := h.1; simpa using this
  rcases h.2 with ⟨hv, h0⟩ | ⟨g, cap, cur, hv, _, _⟩
  · obtain ⟨hA, _, _⟩ := Value.slice.inj hv
    subst hA
    have : l = [] := List.eq_nil_of_length_eq_zero (by omega)
    subst this
    exact run_convert_bytes_nil (P := Tryz.prog) (w := W) _ _ Tryz.underlying60 Tryz.underlying5 n c _ Tryz.underlying9
  · obtain ⟨hA, _, _⟩ := Value.slice.inj hv
    subst hA
    have := conv_bytes W ⟨g, 0, none⟩ n c (l.map fun b => (b.toNat : Int)) (by simpa using hl) (by
      intro j u hu
      have e : (l.map fun b => (b.toNat : Int)).map (Value.int .u8) = cB l := by simp [cB]
      rw [e] at hu
      exact h.cells (g := g) rfl j u hu)
    have e : ((fun n : Int => UInt8.ofNat n.toNat) ∘ fun b : UInt8 => (b.toNat : Int)) = id := by funext b; simp
    rw [this, List.map_map, e, List.map_id]
    rfl

/-- a chunk of bits -/
theorem chunk_get (l : List Bool) (k i : Nat) (hi : i < 8) : ((l.drop (8 * k)).take 8)[i]? = l[8 * k + i]? := by
  rw [List.getElem?_take, if_pos hi, List.getElem?_drop]

set_option maxHeartbeats 2000000 in
theorem v_packBytes (o : Nat) (ho : o ≤ 1) (l : List Bool) (hl : l.length ≤ 32000) (b : ByteArray) (hb : bs b = l.map M.bch) (w : World) :
    Calls Tryz.prog 127 #[.int .i64 o, .string b] w fun e w' => e = .returned (S (M.packB o l)) ∧ G w w' := by
  have hsz : b.size = l.length := by rw [bs_size, hb, List.length_map]
  have hn1 : b.size ≤ 32000 := by omega
  have HS := Lib.hid hsz
  have HB := Lib.hid hb
  have hget := get_bt b
  clear hsz hb
  go_enter Tryz.func127, Tryz.ntmps127
  go_wp2
  go_loopw [5, 6] (fun v f wr => ∃ (k f0 : Nat), f = .int .i64 f0 ∧ Hid (f0 = 8 * k) ∧ f0 ≤ b.size + 7 ∧ wr.ownsRow w.heap.size 5 1 v (M.packB o (l.take f0)).length (cB (M.packB o (l.take f0))) ∧ GR w wr none ∧ VR w none v) (fun _ f _ => b.size - (intOf f).toNat)
  case atStart => exact ⟨0, 0, rfl, rfl, by omega, by simpa [M.packB_nil, cB] using World.ownsRow_nil _ _ _ _, GR.refl _ _, VR.nil _ _⟩
  case round =>
    obtain ⟨k, f, rfl, HK, hk, hown, hG, hV⟩ := hrel
    have hsz := hG.size
    by_cases hlt : f < b.size
    · obtain ⟨n, hn⟩ : ∃ n, min 8 (b.size - f) = n := ⟨_, rfl⟩
      have hn8 : n ≤ 8 := by omega
      have hnk : f + n ≤ b.size := by omega
      have hn0 : 1 ≤ n := by omega
      have hnm : (min 8 ((b.size : Int) - f)) = n := by omega
      have HN := Lib.hid hn
      clear hn
      have hpl : (M.packB o (l.take f)).length ≤ 4000 := by rw [M.packB_length, List.length_take]; omega
      go_wp2
      go_loop [7, 20] (fun x i => ∃ (m : Nat), i = .int .i64 m ∧ m ≤ n ∧ x = .int .i64 (M.psum o 8 ((l.drop f).take 8) m)) (fun _ i => n - (intOf i).toNat)
      case atStart => exact ⟨0, rfl, by omega, by rw [M.psum_zero]; rfl⟩
      case round =>
        obtain ⟨m, rfl, hm, rfl⟩ := hrel
        have hx : M.psum o 8 ((l.drop f).take 8) m ≤ 256 := by have := M.psum_lt o 8 ((l.drop f).take 8) m (by omega); omega
        obtain ⟨x, HX⟩ : ∃ x, Hid (M.psum o 8 ((l.drop f).take 8) m = x) := ⟨_, rfl⟩
        rw [HX.out] at hx ⊢
        by_cases hlt2 : m < n
        · obtain ⟨y, hy⟩ : ∃ y, l[f + m]? = some y := ⟨_, List.getElem?_eq_getElem (by have := HS.out; omega)⟩
          have hbt := bt_bs HB.out (f + m) (M.bch y) (by rw [List.getElem?_map, hy]; rfl)
          have HP := Lib.hid (M.psum_step o 8 ((l.drop f).take 8) m y (by rw [HK.out] at hy ⊢; rw [chunk_get l k m (by omega)]; exact hy) (by omega))
          obtain ⟨p, hp⟩ : ∃ p, 2 ^ (if o = 0 then m else 8 - 1 - m) = p := ⟨_, rfl⟩
          have hp2 : p ≤ 512 := by rw [← hp]; exact pow10 _ (by split <;> omega)
          have HQ := Lib.hid hp
          rw [bch_nat] at hbt
          clear hy hp
          cases y
          all_goals
            simp only [Bool.toNat_false, Bool.toNat_true] at hbt
            go_wp2_with (go_at_call 125; refine (v_place o m 8 p ho (by omega) (by omega) HQ.out _).mono ?_; rintro e w' ⟨rfl, rfl⟩)
            go_round
            case rel => exact ⟨m + 1, by go_num, by omega, by rw [HP.out, HX.out, HQ.out]; first | (simp; done) | (simp; omega)⟩
            case measure => simp [intOf]; omega
        · have hmn : m = n := by omega
          have HMN := Lib.hid hmn
          clear hmn
          go_wp2_with (at_builtin; refine app_u8 rfl (.tmp 35) (.tmp 38) rfl w.heap.size _ _ _ rfl (hown.alloc _) ⟨_, 0, none⟩ 1 1 [_] rfl rfl (cell_one_new _ _ _) (by simp [Value.oneCell']) (by omega) (by simp; omega) ?_; intro v1 w1 hownw1 hgw1 hatw1)
          go_roundw
          case rel =>
            refine ⟨k + 1, f + 8, by go_num, by have := HK.out; show _ = _; omega, by omega, ?_, ((hG.g ((G.refl _).alloc _)).step hV hgw1), VR.step (by simp; have := hG.size; omega) hV hatw1⟩
            have e := M.packB_step o l k (by have := HK.out; have := HS.out; omega)
            have e2 : 8 * k = f := HK.out.symm
            have e3 : 8 * (k + 1) = f + 8 := by omega
            rw [e2, e3] at e
            have e4 : ((l.drop f).take 8).length = m := by have := HN.out; have := HMN.out; have := HS.out; simp; omega
            have e5 := HX.out
            rw [← e4, M.psum_all o 8 _ (by simp; omega), e4] at e5
            have e6 : 8 - (l.length - f) = 8 - m := by have := HN.out; have := HMN.out; have := HS.out; omega
            rw [e6, e5] at e
            rw [e, cB_snoc, List.length_append, UInt8.toNat_ofNat']
            simpa using hownw1
          case measure => simp [intOf]; omega
    · obtain ⟨A, c, rfl⟩ := own_form hown
      have hconv := conv_own _ _ _ _ _ _ hown
      have HO := Lib.hid hown
      clear hown
      go_wp2
      go_ret
      have e : l.take f = l := List.take_of_length_le (by have := HS.out; omega)
      rw [e]
      exact ⟨rfl, hG.toG⟩
end Go.Proofs.YtlaijbkonapdbaaGreat
