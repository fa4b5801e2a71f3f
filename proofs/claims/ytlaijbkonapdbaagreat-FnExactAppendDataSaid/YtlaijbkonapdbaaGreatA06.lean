/-
  FnExactAppendDataSaid is proved: for every input FnExactAppendData returns true, and each argument reads afterwards as it read before; no conditions. Part 6 of 25.
-/
import Derived.Test.YtlaijbkonapdbaaGreatA05
import Derived.Deep.AppendSrc
import Derived.Deep.DeepCutAuto

set_option linter.all false

namespace Go.Proofs.YtlaijbkonapdbaaGreat
open Go.RowKit
attribute [local go_sem] grow_cell grow_frozen conv_one
open Go.PlainAid (bt get_bt bt_nonneg bt_le)

/-- two strings compared -/
theorem seq_dec (a b : ByteArray) (x : Bool) (h : decide (bs a = bs b) = x) : (a.toList == b.toList) = x := by
  rw [ByteArray.toList_eq, ByteArray.toList_eq, ← h]; unfold bs; rw [Bool.eq_iff_iff]; simp
theorem seq_false {a b : ByteArray} (h : bs a ≠ bs b) : (a.toList == b.toList) = false := seq_dec a b false (by simpa using h)
theorem seq_true {a b : ByteArray} (h : bs a = bs b) : (a.toList == b.toList) = true := seq_dec a b true (by simpa using h)

theorem KBox.new (w : World) (k : M.Kn) (A : Option Addr) (c : Nat) : KBox (w.alloc (.cells #[.int .i64 k.s.ord, .int .i64 k.s.lit, .int .i64 k.s.most, .slice A k.ps.length c, .int .i64 k.base, .int .i64 k.last] 40)) w.heap.size k A c :=
  ⟨by simp, by go_cell, by go_cell, by go_cell, by go_cell, by go_cell, by go_cell⟩

section
variable (k : M.Kn) (hk : k.V) (A : Option Addr) (c : Nat) (w : World) (hr : Rds w 2 A k.ps.length (cP k.ps))
include hk hr

set_option maxHeartbeats 1000000 in
theorem v_l2Find (q : M.Bytes) (hq1 : 1 ≤ q.length) (hq2 : q.length ≤ 100000) (m : Nat) (hm : k.find q = some m) (b : ByteArray) (hb : bs b = q) :
    Calls Tryz.prog 114 #[knV k A c, .string b] w fun e w' => e = .returned (.int .i64 m) ∧ G w w' := by
  have hn : k.greatest ≤ 2000 := by have h1 := hk.greatest_le; have h2 := hk.s.l1024; omega
  have hs := hk.s
  have hb1 : 1 ≤ b.size := by rw [bs_size, hb]; exact hq1
  have hb2 : b.size ≤ 100000 := by rw [bs_size, hb]; exact hq2
  have hc256 := hs.c256
  have he : (k.s.e : Int) = k.s.c + 1 := by rw [M.St.e_eq]; omega
  have HE := Lib.hid he
  clear he
  have he1 : k.s.e ≤ k.s.c + 1 := by rw [M.St.e_eq]; omega
  have he2 : k.s.c + 1 ≤ k.s.e := by rw [M.St.e_eq]; omega
  have HR := Lib.hid hr
  have hsz := bs_size b
  have hget := get_bt b
  obtain ⟨x, t, rfl⟩ : ∃ x t, q = x :: t := by
    cases q with
    | nil => simp at hq1
    | cons x t => exact ⟨x, t, rfl⟩
  have hbt := bt_bs hb 0 x rfl
  have hx := x.toNat_lt
  have HB := Lib.hid hb
  rw [hb] at hsz
  unfold M.Kn.find at hm
  clear hr hb hq1 hq2
  by_cases h2 : t = [] ∧ x.toNat < k.s.c
  · obtain ⟨h1, h2⟩ := h2
    subst h1
    have e1 : b.size = 1 := by simpa using hsz
    have hm2 : m = x.toNat := by simp [h2] at hm; exact hm.symm
    subst hm2
    clear hm hsz
    have e2 : ((b.size : Int) == 1) = true := by rw [e1]; rfl
    clear e1
    go_enter Tryz.func114, Tryz.ntmps114
    go_wp2
    refine wp_region_quiet_below (by kernel_rfl) (by kernel_rfl) ?_
    repeat (first | go_big_quiet_step ((first | (go_at_call 71; exact qcall (v_l1Clear k.s hs _)))) | quiet_step ((first | (go_at_call 71; exact qcall (v_l1Clear k.s hs _)))))
    refine wpQuiet_nil ?_
    intro w' hw'
    have h9 := G.of_regrown hw'
    clear hw'
    obtain ⟨hch9, hfh9⟩ := gcell h9
    go_wp2
    go_ret
    exact ⟨rfl, (by repeat' (first | (with_reducible exact G.refl _) | (with_reducible assumption) | (with_reducible refine G.alloc ?_ _) | (with_reducible refine G.drew ?_) | (with_reducible refine G.drewN ?_ _) | (refine G.setCell ?_ (by first | (simp <;> done) | (simp <;> omega)) _) | (with_reducible refine G.trans ?_ (by with_reducible assumption))))⟩
  · have hm2 : (k.codes).find? (fun code => decide (k.A code = x :: t)) = some m := by
      rw [if_neg] at hm
      · exact hm
      · intro ⟨h3, h4⟩; apply h2; refine ⟨?_, by simpa using h4⟩
        have : t.length = 0 := by simpa using h3
        exact List.eq_nil_of_length_eq_zero this
    obtain ⟨f1, f2, f3, f4⟩ := (M.Kn.range'_find (fun code => decide (k.A code = x :: t)) _ _).1 m hm2
    have f5 : m ≤ k.greatest := by omega
    have F1 : Hid (k.A m = x :: t) := by simpa [Hid] using f1
    have F4 : Hid (∀ m', k.s.c + 2 ≤ m' → m' < m → k.A m' ≠ x :: t) := fun m' h1 h2 => by simpa using f4 m' h1 h2
    have H2 := Lib.hid h2
    have HSZ := Lib.hid hsz
    clear hm hm2 f1 f3 f4 h2 hsz
    have hcase : (b.size = 1 ∧ k.s.c ≤ x.toNat) ∨ b.size ≠ 1 := by
      by_cases h3 : b.size = 1
      · left; refine ⟨h3, ?_⟩
        rcases Nat.lt_or_ge x.toNat k.s.c with h4 | h4
        · exact absurd ⟨List.eq_nil_of_length_eq_zero (by have := HSZ.out; simp at this; omega), h4⟩ H2.out
        · exact h4
      · exact Or.inr h3
    rcases hcase with ⟨h3, h4⟩ | h3
    · have e2 : ((b.size : Int) == 1) = true := by rw [h3]; rfl
      clear h3
      go_enter Tryz.func114, Tryz.ntmps114
      go_wp2
      refine wp_region_quiet_below (by kernel_rfl) (by kernel_rfl) ?_
      repeat (first | go_big_quiet_step ((first | (go_at_call 71; exact qcall (v_l1Clear k.s hs _)))) | quiet_step ((first | (go_at_call 71; exact qcall (v_l1Clear k.s hs _)))))
      refine wpQuiet_nil ?_
      intro w' hw'
      have h9 := G.of_regrown hw'
      clear hw'
      obtain ⟨hch9, hfh9⟩ := gcell h9
      clear e2 hbt
      go_wp2_with ((go_at_call 93; refine (v_l1End k.s hs _).mono ?_; rintro e w' ⟨rfl, h1⟩; obtain ⟨hch1, hfh1⟩ := gcell h1; try (have hzh1 : w.heap.size < w'.heap.size := by have := h1.size; (try simp at this); omega); try (have hyh1 : w.heap.size + 1 < w'.heap.size := by have := h1.size; (try simp at this); omega)))
      go_loopw [5] (fun x wr => ∃ i : Nat, x = .int .i64 i ∧ k.s.c + 2 ≤ i ∧ i ≤ m ∧ G w wr ∧ KBox wr w.heap.size k A c) (fun x _ => m - (intOf x).toNat)
      case atStart => exact ⟨k.s.c + 2, by go_num, by omega, by omega, (by repeat' (first | (with_reducible exact G.refl _) | (with_reducible assumption) | (with_reducible refine G.alloc ?_ _) | (with_reducible refine G.drew ?_) | (with_reducible refine G.drewN ?_ _) | (refine G.setCell ?_ (by first | (simp <;> done) | (simp <;> omega)) _) | (with_reducible refine G.trans ?_ (by with_reducible assumption)))), (KBox.new w k A c).g (by repeat' (first | (with_reducible exact G.refl _) | (with_reducible assumption) | (with_reducible refine G.alloc ?_ _) | (with_reducible refine G.drew ?_) | (with_reducible refine G.drewN ?_ _) | (refine G.setCell ?_ (by first | (simp <;> done) | (simp <;> omega)) _) | (with_reducible refine G.trans ?_ (by with_reducible assumption))))⟩
      case round =>
        obtain ⟨i, rfl, hi1, hi2, hGr, hK⟩ := hrel
        have HK := Lib.hid hK
        obtain ⟨k9, k0, k1, k2, k3, k4, k5⟩ := hK
        have HF : Hid (k.follows i) := Or.inr ⟨hi1, by omega⟩
        by_cases h6 : i = m
        · subst h6
          have HA : Hid (S (k.A i) = .string b) := by unfold Hid; rw [F1.out, ← bs_eq HB.out]
          go_wp2_with (first | (go_at_call 130; refine (v_l2Greatest k hk A c _).mono ?_; rintro e w' ⟨rfl, h7⟩; obtain ⟨hch7, hfh7⟩ := gcell h7; try (have hzh7 : w.heap.size < w'.heap.size := by have := h7.size; (try simp at this); omega); try (have hyh7 : w.heap.size + 1 < w'.heap.size := by have := h7.size; (try simp at this); omega)) | (go_at_call 131; refine (v_l2Any k hk A c _ (HR.out.g (by repeat' (first | (with_reducible exact G.refl _) | (with_reducible assumption) | (with_reducible refine G.alloc ?_ _) | (with_reducible refine G.drew ?_) | (with_reducible refine G.drewN ?_ _) | (refine G.setCell ?_ (by first | (simp <;> done) | (simp <;> omega)) _) | (with_reducible refine G.trans ?_ (by with_reducible assumption))))) _ HF.out).mono ?_; rintro e w' ⟨rfl, h8⟩; obtain ⟨hch8, hfh8⟩ := gcell h8; rw [HA.out]))
          go_ret
          exact ⟨rfl, (by repeat' (first | (with_reducible exact G.refl _) | (with_reducible assumption) | (with_reducible refine G.alloc ?_ _) | (with_reducible refine G.drew ?_) | (with_reducible refine G.drewN ?_ _) | (refine G.setCell ?_ (by first | (simp <;> done) | (simp <;> omega)) _) | (with_reducible refine G.trans ?_ (by with_reducible assumption))))⟩
        · obtain ⟨b2, hb2⟩ : ∃ b2, bs b2 = k.A i := ⟨⟨(k.A i).toArray⟩, rfl⟩
          have HA : Hid (S (k.A i) = .string b2) := by unfold Hid; rw [← bs_eq hb2]
          have hne := seq_false (a := b2) (b := b) (fun h => F4.out i hi1 (by omega) (by rw [← hb2, h, HB.out]))
          have hi3 : i < m := by omega
          clear hb2 h6
          go_wp2_with (first | (go_at_call 130; refine (v_l2Greatest k hk A c _).mono ?_; rintro e w' ⟨rfl, h7⟩; obtain ⟨hch7, hfh7⟩ := gcell h7; try (have hzh7 : w.heap.size < w'.heap.size := by have := h7.size; (try simp at this); omega); try (have hyh7 : w.heap.size + 1 < w'.heap.size := by have := h7.size; (try simp at this); omega)) | (go_at_call 131; refine (v_l2Any k hk A c _ (HR.out.g (by repeat' (first | (with_reducible exact G.refl _) | (with_reducible assumption) | (with_reducible refine G.alloc ?_ _) | (with_reducible refine G.drew ?_) | (with_reducible refine G.drewN ?_ _) | (refine G.setCell ?_ (by first | (simp <;> done) | (simp <;> omega)) _) | (with_reducible refine G.trans ?_ (by with_reducible assumption))))) _ HF.out).mono ?_; rintro e w' ⟨rfl, h8⟩; obtain ⟨hch8, hfh8⟩ := gcell h8; rw [HA.out]))
          go_roundw
          case rel => exact ⟨i + 1, by go_num, by omega, by omega, (by repeat' (first | (with_reducible exact G.refl _) | (with_reducible assumption) | (with_reducible refine G.alloc ?_ _) | (with_reducible refine G.drew ?_) | (with_reducible refine G.drewN ?_ _) | (refine G.setCell ?_ (by first | (simp <;> done) | (simp <;> omega)) _) | (with_reducible refine G.trans ?_ (by with_reducible assumption)))), HK.out.g (by repeat' (first | (with_reducible exact G.refl _) | (with_reducible assumption) | (with_reducible refine G.alloc ?_ _) | (with_reducible refine G.drew ?_) | (with_reducible refine G.drewN ?_ _) | (refine G.setCell ?_ (by first | (simp <;> done) | (simp <;> omega)) _) | (with_reducible refine G.trans ?_ (by with_reducible assumption))))⟩
          case measure => simp [intOf]; omega
    · have e2 : ((b.size : Int) == 1) = false := by simp; omega
      clear h3
      go_enter Tryz.func114, Tryz.ntmps114
      go_wp2
      refine wp_region_quiet_below (by kernel_rfl) (by kernel_rfl) ?_
      repeat (first | go_big_quiet_step (fail) | quiet_step (fail))
      refine wpQuiet_nil ?_
      intro w' hw'
      have h9 := G.of_regrown hw'
      clear hw'
      obtain ⟨hch9, hfh9⟩ := gcell h9
      clear e2 hbt
      go_wp2_with ((go_at_call 93; refine (v_l1End k.s hs _).mono ?_; rintro e w' ⟨rfl, h1⟩; obtain ⟨hch1, hfh1⟩ := gcell h1; try (have hzh1 : w.heap.size < w'.heap.size := by have := h1.size; (try simp at this); omega); try (have hyh1 : w.heap.size + 1 < w'.heap.size := by have := h1.size; (try simp at this); omega)))
      go_loopw [5] (fun x wr => ∃ i : Nat, x = .int .i64 i ∧ k.s.c + 2 ≤ i ∧ i ≤ m ∧ G w wr ∧ KBox wr w.heap.size k A c) (fun x _ => m - (intOf x).toNat)
      case atStart => exact ⟨k.s.c + 2, by go_num, by omega, by omega, (by repeat' (first | (with_reducible exact G.refl _) | (with_reducible assumption) | (with_reducible refine G.alloc ?_ _) | (with_reducible refine G.drew ?_) | (with_reducible refine G.drewN ?_ _) | (refine G.setCell ?_ (by first | (simp <;> done) | (simp <;> omega)) _) | (with_reducible refine G.trans ?_ (by with_reducible assumption)))), (KBox.new w k A c).g (by repeat' (first | (with_reducible exact G.refl _) | (with_reducible assumption) | (with_reducible refine G.alloc ?_ _) | (with_reducible refine G.drew ?_) | (with_reducible refine G.drewN ?_ _) | (refine G.setCell ?_ (by first | (simp <;> done) | (simp <;> omega)) _) | (with_reducible refine G.trans ?_ (by with_reducible assumption))))⟩
      case round =>
        obtain ⟨i, rfl, hi1, hi2, hGr, hK⟩ := hrel
        have HK := Lib.hid hK
        obtain ⟨k9, k0, k1, k2, k3, k4, k5⟩ := hK
        have HF : Hid (k.follows i) := Or.inr ⟨hi1, by omega⟩
        by_cases h6 : i = m
        · subst h6
          have HA : Hid (S (k.A i) = .string b) := by unfold Hid; rw [F1.out, ← bs_eq HB.out]
          go_wp2_with (first | (go_at_call 130; refine (v_l2Greatest k hk A c _).mono ?_; rintro e w' ⟨rfl, h7⟩; obtain ⟨hch7, hfh7⟩ := gcell h7; try (have hzh7 : w.heap.size < w'.heap.size := by have := h7.size; (try simp at this); omega); try (have hyh7 : w.heap.size + 1 < w'.heap.size := by have := h7.size; (try simp at this); omega)) | (go_at_call 131; refine (v_l2Any k hk A c _ (HR.out.g (by repeat' (first | (with_reducible exact G.refl _) | (with_reducible assumption) | (with_reducible refine G.alloc ?_ _) | (with_reducible refine G.drew ?_) | (with_reducible refine G.drewN ?_ _) | (refine G.setCell ?_ (by first | (simp <;> done) | (simp <;> omega)) _) | (with_reducible refine G.trans ?_ (by with_reducible assumption))))) _ HF.out).mono ?_; rintro e w' ⟨rfl, h8⟩; obtain ⟨hch8, hfh8⟩ := gcell h8; rw [HA.out]))
          go_ret
          exact ⟨rfl, (by repeat' (first | (with_reducible exact G.refl _) | (with_reducible assumption) | (with_reducible refine G.alloc ?_ _) | (with_reducible refine G.drew ?_) | (with_reducible refine G.drewN ?_ _) | (refine G.setCell ?_ (by first | (simp <;> done) | (simp <;> omega)) _) | (with_reducible refine G.trans ?_ (by with_reducible assumption))))⟩
        · obtain ⟨b2, hb2⟩ : ∃ b2, bs b2 = k.A i := ⟨⟨(k.A i).toArray⟩, rfl⟩
          have HA : Hid (S (k.A i) = .string b2) := by unfold Hid; rw [← bs_eq hb2]
          have hne := seq_false (a := b2) (b := b) (fun h => F4.out i hi1 (by omega) (by rw [← hb2, h, HB.out]))
          have hi3 : i < m := by omega
          clear hb2 h6
          go_wp2_with (first | (go_at_call 130; refine (v_l2Greatest k hk A c _).mono ?_; rintro e w' ⟨rfl, h7⟩; obtain ⟨hch7, hfh7⟩ := gcell h7; try (have hzh7 : w.heap.size < w'.heap.size := by have := h7.size; (try simp at this); omega); try (have hyh7 : w.heap.size + 1 < w'.heap.size := by have := h7.size; (try simp at this); omega)) | (go_at_call 131; refine (v_l2Any k hk A c _ (HR.out.g (by repeat' (first | (with_reducible exact G.refl _) | (with_reducible assumption) | (with_reducible refine G.alloc ?_ _) | (with_reducible refine G.drew ?_) | (with_reducible refine G.drewN ?_ _) | (refine G.setCell ?_ (by first | (simp <;> done) | (simp <;> omega)) _) | (with_reducible refine G.trans ?_ (by with_reducible assumption))))) _ HF.out).mono ?_; rintro e w' ⟨rfl, h8⟩; obtain ⟨hch8, hfh8⟩ := gcell h8; rw [HA.out]))
          go_roundw
          case rel => exact ⟨i + 1, by go_num, by omega, by omega, (by repeat' (first | (with_reducible exact G.refl _) | (with_reducible assumption) | (with_reducible refine G.alloc ?_ _) | (with_reducible refine G.drew ?_) | (with_reducible refine G.drewN ?_ _) | (refine G.setCell ?_ (by first | (simp <;> done) | (simp <;> omega)) _) | (with_reducible refine G.trans ?_ (by with_reducible assumption)))), HK.out.g (by repeat' (first | (with_reducible exact G.refl _) | (with_reducible assumption) | (with_reducible refine G.alloc ?_ _) | (with_reducible refine G.drew ?_) | (with_reducible refine G.drewN ?_ _) | (refine G.setCell ?_ (by first | (simp <;> done) | (simp <;> omega)) _) | (with_reducible refine G.trans ?_ (by with_reducible assumption))))⟩
          case measure => simp [intOf]; omega
end
end Go.Proofs.YtlaijbkonapdbaaGreat

namespace M.Kn
def fl (k : Kn) (d : Bytes) (i : Nat) : Bytes := (List.range' (k.s.c + 2) (i - (k.s.c + 2))).foldl (longStep k d) (d.take 1)
theorem fl_zero (k : Kn) (d : Bytes) : k.fl d (k.s.c + 2) = d.take 1 := by simp [fl]
theorem fl_succ (k : Kn) (d : Bytes) (i : Nat) (h : k.s.c + 2 ≤ i) : k.fl d (i + 1) = longStep k d (k.fl d i) i := by
  unfold fl
  have e : i + 1 - (k.s.c + 2) = (i - (k.s.c + 2)) + 1 := by omega
  rw [e, List.range'_1_concat, List.foldl_append]
  have e2 : k.s.c + 2 + (i - (k.s.c + 2)) = i := by omega
  rw [e2]; rfl
theorem fl_all (k : Kn) (d : Bytes) : k.fl d (k.greatest + 1) = k.longW d := rfl
theorem longStep_len (k : Kn) (d best : Bytes) (i : Nat) (h : best.length ≤ d.length) : (longStep k d best i).length ≤ d.length := by
  unfold longStep; split
  · rename_i h2; exact h2.2.length_le
  · exact h
end M.Kn
namespace Go.Proofs.YtlaijbkonapdbaaGreat
open Go.RowKit
attribute [local go_sem] grow_cell grow_frozen conv_one

section
variable (k : M.Kn) (hk : k.V) (A : Option Addr) (c : Nat) (w : World) (hr : Rds w 2 A k.ps.length (cP k.ps))
include hk hr

set_option maxHeartbeats 2000000 in
theorem v_l2Longest (d : M.Bytes) (hd1 : 1 ≤ d.length) (hd2 : d.length ≤ 100000) (b : ByteArray) (hb : bs b = d) :
    Calls Tryz.prog 112 #[knV k A c, .string b] w fun e w' => e = .returned (S (k.longW d)) ∧ G w w' := by
  have hn : k.greatest ≤ 2000 := by have h1 := hk.greatest_le; have h2 := hk.s.l1024; omega
  have hs := hk.s
  have hb1 : 1 ≤ b.size := by rw [bs_size, hb]; exact hd1
  have hb2 : b.size ≤ 100000 := by rw [bs_size, hb]; exact hd2
  have hc256 := hs.c256
  have he1 : k.s.e ≤ k.s.c + 1 := by rw [M.St.e_eq]; omega
  have he2 : k.s.c + 1 ≤ k.s.e := by rw [M.St.e_eq]; omega
  have hgr : k.s.c + 1 ≤ k.greatest := by unfold M.Kn.greatest M.Kn.nxt; split <;> omega
  have HR := Lib.hid hr
  have HB := Lib.hid hb
  have hnx : k.nxt ≤ 2000 := by have h1 := hk.nxt_le; have h2 := hk.s.l1024; omega
  have hps : k.ps.length ≤ 2000 := by unfold M.Kn.nxt at hnx; omega
  clear hr hb hd1 hd2
  go_enter Tryz.func112, Tryz.ntmps112
  go_wp2_with ((go_at_call 93; refine (v_l1End k.s hs _).mono ?_; rintro e w' ⟨rfl, h1⟩; obtain ⟨hch1, hfh1⟩ := gcell h1; try (have hzh1 : w.heap.size < w'.heap.size := by have := h1.size; (try simp at this); omega); try (have hyh1 : w.heap.size + 1 < w'.heap.size := by have := h1.size; (try simp at this); omega)))
  go_loopw [5, 6] (fun y x wr => ∃ (i : Nat) (bb : ByteArray), x = .int .i64 i ∧ y = .string bb ∧ k.s.c + 2 ≤ i ∧ i ≤ k.greatest + 1 ∧ Hid (bs bb = k.fl d i) ∧ bb.size ≤ b.size ∧ G w wr ∧ KBox wr w.heap.size k A c) (fun _ x _ => k.greatest + 1 - (intOf x).toNat)
  case atStart => exact ⟨k.s.c + 2, _, by go_num, rfl, by omega, by omega, by show _ = _; rw [M.Kn.fl_zero, bs_extract, HB.out]; simp, by rw [bs_size, bs_size b, bs_extract, List.length_take, List.length_drop]; omega, (by repeat' (first | (with_reducible exact G.refl _) | (with_reducible assumption) | (with_reducible refine G.alloc ?_ _) | (with_reducible refine G.drew ?_) | (with_reducible refine G.drewN ?_ _) | (refine G.setCell ?_ (by first | (simp <;> done) | (simp <;> omega)) _) | (with_reducible refine G.trans ?_ (by with_reducible assumption)))), (KBox.new w k A c).g (by repeat' (first | (with_reducible exact G.refl _) | (with_reducible assumption) | (with_reducible refine G.alloc ?_ _) | (with_reducible refine G.drew ?_) | (with_reducible refine G.drewN ?_ _) | (refine G.setCell ?_ (by first | (simp <;> done) | (simp <;> omega)) _) | (with_reducible refine G.trans ?_ (by with_reducible assumption))))⟩
  case round =>
    obtain ⟨i, bb, rfl, rfl, hi1, hi2, HBB, hbb, hGr, hK⟩ := hrel
    have HK := Lib.hid hK
    obtain ⟨k9, k0, k1, k2, k3, k4, k5⟩ := hK
    by_cases hlt : i ≤ k.greatest
    · have hf : k.follows i := Or.inr ⟨hi1, by omega⟩
      have HF := Lib.hid hf
      have hAl := (hk.A_ne hf).2.1
      obtain ⟨b2, hb2'⟩ : ∃ b2, bs b2 = k.A i := ⟨⟨(k.A i).toArray⟩, rfl⟩
      have HA : Hid (S (k.A i) = .string b2) := by unfold Hid; rw [← bs_eq hb2']
      have hb2s : b2.size ≤ 2002 := by rw [bs_size, hb2']; omega
      have HB2 := Lib.hid hb2'
      have HS := Lib.hid (M.Kn.fl_succ k d i hi1)
      clear hf hb2' hAl
      have hcase : (bb.size < b2.size ∧ b2.size ≤ b.size) ∨ (bb.size < b2.size ∧ ¬ b2.size ≤ b.size) ∨ ¬ bb.size < b2.size := by omega
      have hL1 : (k.fl d i).length = bb.size := by rw [bs_size, HBB.out]
      have hL2 : (k.A i).length = b2.size := by rw [bs_size, HB2.out]
      have hL3 : d.length = b.size := by rw [bs_size, HB.out]
      have HL1 := Lib.hid hL1
      have HL2 := Lib.hid hL2
      have HL3 := Lib.hid hL3
      clear hL1 hL2 hL3
      rcases hcase with ⟨h5, h6⟩ | ⟨h5, h6⟩ | h5
      · have i1 : (0 : Int) ≤ (b2.size : Int) := by omega
        have i2 : (b2.size : Int) ≤ (b.size : Int) := by omega
        by_cases h9 : bs (b.extract 0 b2.size) = bs b2
        · have hz := seq_true h9
          have HPR : Hid (k.A i <+: d) := by
            show _ <+: _
            rw [← HB2.out, ← h9, bs_extract, HB.out, List.drop_zero]
            exact List.take_prefix _ _
          clear h9
          go_wp2_with (first | (go_at_call 130; refine (v_l2Greatest k hk A c _).mono ?_; rintro e w' ⟨rfl, h7⟩; obtain ⟨hch7, hfh7⟩ := gcell h7; try (have hzh7 : w.heap.size < w'.heap.size := by have := h7.size; (try simp at this); omega); try (have hyh7 : w.heap.size + 1 < w'.heap.size := by have := h7.size; (try simp at this); omega)) | (go_at_call 131; refine (v_l2Any k hk A c _ (HR.out.g (by repeat' (first | (with_reducible exact G.refl _) | (with_reducible assumption) | (with_reducible refine G.alloc ?_ _) | (with_reducible refine G.drew ?_) | (with_reducible refine G.drewN ?_ _) | (refine G.setCell ?_ (by first | (simp <;> done) | (simp <;> omega)) _) | (with_reducible refine G.trans ?_ (by with_reducible assumption))))) _ HF.out).mono ?_; rintro e w' ⟨rfl, h8⟩; obtain ⟨hch8, hfh8⟩ := gcell h8; rw [HA.out]))
          go_roundw
          case rel => exact ⟨i + 1, b2, by go_num, rfl, by omega, by omega, by show _ = _; rw [HS.out, HB2.out]; unfold M.Kn.longStep; rw [if_pos ⟨by rw [HL1.out, HL2.out]; exact h5, HPR.out⟩], by omega, (by repeat' (first | (with_reducible exact G.refl _) | (with_reducible assumption) | (with_reducible refine G.alloc ?_ _) | (with_reducible refine G.drew ?_) | (with_reducible refine G.drewN ?_ _) | (refine G.setCell ?_ (by first | (simp <;> done) | (simp <;> omega)) _) | (with_reducible refine G.trans ?_ (by with_reducible assumption)))), HK.out.g (by repeat' (first | (with_reducible exact G.refl _) | (with_reducible assumption) | (with_reducible refine G.alloc ?_ _) | (with_reducible refine G.drew ?_) | (with_reducible refine G.drewN ?_ _) | (refine G.setCell ?_ (by first | (simp <;> done) | (simp <;> omega)) _) | (with_reducible refine G.trans ?_ (by with_reducible assumption))))⟩
          case measure => simp [intOf]; omega
        · have hz := seq_false h9
          have HPR : Hid (¬ k.A i <+: d) := fun h => h9 (by
            rw [bs_extract, HB.out, HB2.out, List.drop_zero, Nat.sub_zero, ← HL2.out]; exact (List.prefix_iff_eq_take.1 h).symm)
          clear h9
          go_wp2_with (first | (go_at_call 130; refine (v_l2Greatest k hk A c _).mono ?_; rintro e w' ⟨rfl, h7⟩; obtain ⟨hch7, hfh7⟩ := gcell h7; try (have hzh7 : w.heap.size < w'.heap.size := by have := h7.size; (try simp at this); omega); try (have hyh7 : w.heap.size + 1 < w'.heap.size := by have := h7.size; (try simp at this); omega)) | (go_at_call 131; refine (v_l2Any k hk A c _ (HR.out.g (by repeat' (first | (with_reducible exact G.refl _) | (with_reducible assumption) | (with_reducible refine G.alloc ?_ _) | (with_reducible refine G.drew ?_) | (with_reducible refine G.drewN ?_ _) | (refine G.setCell ?_ (by first | (simp <;> done) | (simp <;> omega)) _) | (with_reducible refine G.trans ?_ (by with_reducible assumption))))) _ HF.out).mono ?_; rintro e w' ⟨rfl, h8⟩; obtain ⟨hch8, hfh8⟩ := gcell h8; rw [HA.out]))
          go_roundw
          case rel => exact ⟨i + 1, bb, by go_num, rfl, by omega, by omega, by show _ = _; rw [HS.out, HBB.out]; unfold M.Kn.longStep; rw [if_neg (fun h => HPR.out h.2)], by omega, (by repeat' (first | (with_reducible exact G.refl _) | (with_reducible assumption) | (with_reducible refine G.alloc ?_ _) | (with_reducible refine G.drew ?_) | (with_reducible refine G.drewN ?_ _) | (refine G.setCell ?_ (by first | (simp <;> done) | (simp <;> omega)) _) | (with_reducible refine G.trans ?_ (by with_reducible assumption)))), HK.out.g (by repeat' (first | (with_reducible exact G.refl _) | (with_reducible assumption) | (with_reducible refine G.alloc ?_ _) | (with_reducible refine G.drew ?_) | (with_reducible refine G.drewN ?_ _) | (refine G.setCell ?_ (by first | (simp <;> done) | (simp <;> omega)) _) | (with_reducible refine G.trans ?_ (by with_reducible assumption))))⟩
          case measure => simp [intOf]; omega
      · have HPR : Hid (¬ k.A i <+: d) := fun h => h6 (by have := h.length_le; rw [HL2.out, HL3.out] at this; exact this)
        go_wp2_with (first | (go_at_call 130; refine (v_l2Greatest k hk A c _).mono ?_; rintro e w' ⟨rfl, h7⟩; obtain ⟨hch7, hfh7⟩ := gcell h7; try (have hzh7 : w.heap.size < w'.heap.size := by have := h7.size; (try simp at this); omega); try (have hyh7 : w.heap.size + 1 < w'.heap.size := by have := h7.size; (try simp at this); omega)) | (go_at_call 131; refine (v_l2Any k hk A c _ (HR.out.g (by repeat' (first | (with_reducible exact G.refl _) | (with_reducible assumption) | (with_reducible refine G.alloc ?_ _) | (with_reducible refine G.drew ?_) | (with_reducible refine G.drewN ?_ _) | (refine G.setCell ?_ (by first | (simp <;> done) | (simp <;> omega)) _) | (with_reducible refine G.trans ?_ (by with_reducible assumption))))) _ HF.out).mono ?_; rintro e w' ⟨rfl, h8⟩; obtain ⟨hch8, hfh8⟩ := gcell h8; rw [HA.out]))
        go_roundw
        case rel => exact ⟨i + 1, bb, by go_num, rfl, by omega, by omega, by show _ = _; rw [HS.out, HBB.out]; unfold M.Kn.longStep; rw [if_neg (fun h => HPR.out h.2)], by omega, (by repeat' (first | (with_reducible exact G.refl _) | (with_reducible assumption) | (with_reducible refine G.alloc ?_ _) | (with_reducible refine G.drew ?_) | (with_reducible refine G.drewN ?_ _) | (refine G.setCell ?_ (by first | (simp <;> done) | (simp <;> omega)) _) | (with_reducible refine G.trans ?_ (by with_reducible assumption)))), HK.out.g (by repeat' (first | (with_reducible exact G.refl _) | (with_reducible assumption) | (with_reducible refine G.alloc ?_ _) | (with_reducible refine G.drew ?_) | (with_reducible refine G.drewN ?_ _) | (refine G.setCell ?_ (by first | (simp <;> done) | (simp <;> omega)) _) | (with_reducible refine G.trans ?_ (by with_reducible assumption))))⟩
        case measure => simp [intOf]; omega
      · go_wp2_with (first | (go_at_call 130; refine (v_l2Greatest k hk A c _).mono ?_; rintro e w' ⟨rfl, h7⟩; obtain ⟨hch7, hfh7⟩ := gcell h7; try (have hzh7 : w.heap.size < w'.heap.size := by have := h7.size; (try simp at this); omega); try (have hyh7 : w.heap.size + 1 < w'.heap.size := by have := h7.size; (try simp at this); omega)) | (go_at_call 131; refine (v_l2Any k hk A c _ (HR.out.g (by repeat' (first | (with_reducible exact G.refl _) | (with_reducible assumption) | (with_reducible refine G.alloc ?_ _) | (with_reducible refine G.drew ?_) | (with_reducible refine G.drewN ?_ _) | (refine G.setCell ?_ (by first | (simp <;> done) | (simp <;> omega)) _) | (with_reducible refine G.trans ?_ (by with_reducible assumption))))) _ HF.out).mono ?_; rintro e w' ⟨rfl, h8⟩; obtain ⟨hch8, hfh8⟩ := gcell h8; rw [HA.out]))
        go_roundw
        case rel => exact ⟨i + 1, bb, by go_num, rfl, by omega, by omega, by show _ = _; rw [HS.out, HBB.out]; unfold M.Kn.longStep; rw [if_neg (fun h => h5 (by have := h.1; rw [HL1.out, HL2.out] at this; exact this))], by omega, (by repeat' (first | (with_reducible exact G.refl _) | (with_reducible assumption) | (with_reducible refine G.alloc ?_ _) | (with_reducible refine G.drew ?_) | (with_reducible refine G.drewN ?_ _) | (refine G.setCell ?_ (by first | (simp <;> done) | (simp <;> omega)) _) | (with_reducible refine G.trans ?_ (by with_reducible assumption)))), HK.out.g (by repeat' (first | (with_reducible exact G.refl _) | (with_reducible assumption) | (with_reducible refine G.alloc ?_ _) | (with_reducible refine G.drew ?_) | (with_reducible refine G.drewN ?_ _) | (refine G.setCell ?_ (by first | (simp <;> done) | (simp <;> omega)) _) | (with_reducible refine G.trans ?_ (by with_reducible assumption))))⟩
        case measure => simp [intOf]; omega
    · go_wp2_with (first | (go_at_call 130; refine (v_l2Greatest k hk A c _).mono ?_; rintro e w' ⟨rfl, h7⟩; obtain ⟨hch7, hfh7⟩ := gcell h7; try (have hzh7 : w.heap.size < w'.heap.size := by have := h7.size; (try simp at this); omega); try (have hyh7 : w.heap.size + 1 < w'.heap.size := by have := h7.size; (try simp at this); omega)))
      go_ret
      have e : i = k.greatest + 1 := by omega
      exact ⟨congrArg _ (bs_eq (by rw [HBB.out, e, M.Kn.fl_all])), (by repeat' (first | (with_reducible exact G.refl _) | (with_reducible assumption) | (with_reducible refine G.alloc ?_ _) | (with_reducible refine G.drew ?_) | (with_reducible refine G.drewN ?_ _) | (refine G.setCell ?_ (by first | (simp <;> done) | (simp <;> omega)) _) | (with_reducible refine G.trans ?_ (by with_reducible assumption))))⟩
end
end Go.Proofs.YtlaijbkonapdbaaGreat

namespace Go.Proofs.YtlaijbkonapdbaaGreat
open Go.RowKit

/-- a slice that can be read is a source of an append -/
theorem Src.ofRds {P : Program} {w : World} {size : Nat} {tx e' : TypeId} (hk : P.underlying tx = some (.slice e')) {A : Option Addr} {n c : Nat} {xs : List Value} (h : Rds w size A n xs) (h1 : ∀ u ∈ xs, u.oneCell' = true) :
    Src P size tx (.slice A n c) n xs w := by
  cases A with
  | none =>
    have hn : n = 0 := by
      rcases Nat.eq_zero_or_pos n with h0 | h0
      · exact h0
      · obtain ⟨g, e, _⟩ := h.2 h0; exact absurd e (by simp)
    subst hn
    have : xs = [] := List.eq_nil_of_length_eq_zero (by simpa using h.1)
    subst this
    exact Src.ofNil w hk c
  | some a =>
    refine Src.ofSlice w hk a n c xs h.1 (fun j u hu => ?_) h1
    rcases Nat.eq_zero_or_pos n with h0 | h0
    · subst h0
      have : xs = [] := List.eq_nil_of_length_eq_zero (by simpa using h.1)
      subst this; simp at hu
    · obtain ⟨g, e, _, hc⟩ := h.2 h0
      injection e with e
      subst e
      rw [Addr.add_lit]; simpa using hc j u hu

section
variable {ops : Array Oper} {rest : List Oper} {o : Oper} {a : Act} {Q : Exit → Act → World → Prop} {w : World} {K : Act → World → Prop} {E : Prop}
theorem wp_app {e : TypeId} {z : Value} {size bytes : Nat} (t tx : TypeId) (ht : Tryz.prog.underlying t = some (.slice e)) (hin : (Tryz.prog.info? e).map (fun i => (i.zero, i.size, i.bytes)) = some (some z, size, bytes)) (hzs : z.cells.size = size) (hby : bytes ≤ 1000)
    (s x : Operand) (ho : o.op = .call { callee := .builtin .append, args := #[s, x], argTypes := #[t, tx] })
    (base : Nat) (v : Value) (n : Nat) (xs : List Value) (hs : a.eval s = v) (hown : w.ownsRow base e size v n xs) (y : Value) (m : Nat) (news : List Value) (hx : a.eval x = y) (hsrc : Src Tryz.prog size tx y m news w)
    (hlen : n + m ≤ 100000000) (hbase : base ≤ w.heap.size)
    (h : ∀ v' w', w'.ownsRow base e size v' (n + m) (xs ++ news) → w.grownBy w' v.ownBlock → (v'.ownBlock = v.ownBlock ∨ v'.ownBlock = some w.heap.size) → K (a.put o.dst v') w') : o.wp Tryz.prog a w K Q := by
  obtain ⟨i0, hi, hz0, hz1, hz2⟩ := info_parts hin
  have hm : (n + m) * bytes ≤ 100000000 * 1000 := Nat.mul_le_mul hlen hby
  obtain ⟨v', w', hr, h2, h3, h4⟩ := run_append_own_src (P := Tryz.prog) w base t tx o.type _ i0 _ size bytes ht hi hz0 hz1 hz2 hzs v n xs hown y m news hsrc (by simp only [maxLen]; omega) (by omega) hbase
  unfold Oper.wp execOp
  simp only [ho, resolve, invoke, builtin, Sem.run_bind, Sem.run_pure, Result.andThen_ok, List.map_toArray, List.map_cons, List.map_nil, hs, hx, hr]
  exact h v' w' h2 h3 h4
theorem app {e : TypeId} {z : Value} {size bytes : Nat} (t tx : TypeId) (ht : Tryz.prog.underlying t = some (.slice e)) (hin : (Tryz.prog.info? e).map (fun i => (i.zero, i.size, i.bytes)) = some (some z, size, bytes)) (hzs : z.cells.size = size) (hby : bytes ≤ 1000)
    (hgd : o.guard = none) (s x : Operand) (ho : o.op = .call { callee := .builtin .append, args := #[s, x], argTypes := #[t, tx] })
    (base : Nat) (v : Value) (n : Nat) (xs : List Value) (hs : a.eval s = v) (hown : w.ownsRow base e size v n xs) (y : Value) (m : Nat) (news : List Value) (hx : a.eval x = y) (hsrc : Src Tryz.prog size tx y m news w)
    (hlen : n + m ≤ 100000000) (hbase : base ≤ w.heap.size)
    (h : ∀ v' w', w'.ownsRow base e size v' (n + m) (xs ++ news) → w.grownBy w' v.ownBlock → (v'.ownBlock = v.ownBlock ∨ v'.ownBlock = some w.heap.size) → wpList Tryz.prog ops Q rest (a.put o.dst v') w') :
    wpList Tryz.prog ops Q (o :: rest) a w :=
  wpList_plain hgd fun _ hK => wp_app t tx ht hin hzs hby s x ho base v n xs hs hown y m news hx hsrc hlen hbase fun v' w' h2 h3 h4 => hK _ _ (h v' w' h2 h3 h4)
theorem step_app {e : TypeId} {z : Value} {size bytes : Nat} (t tx : TypeId) (ht : Tryz.prog.underlying t = some (.slice e)) (hin : (Tryz.prog.info? e).map (fun i => (i.zero, i.size, i.bytes)) = some (some z, size, bytes)) (hzs : z.cells.size = size) (hby : bytes ≤ 1000)
    (hgd : o.guard = none) (s x : Operand) (ho : o.op = .call { callee := .builtin .append, args := #[s, x], argTypes := #[t, tx] })
    (base : Nat) (v : Value) (n : Nat) (xs : List Value) (hs : a.eval s = v) (hown : w.ownsRow base e size v n xs) (y : Value) (m : Nat) (news : List Value) (hx : a.eval x = y) (hsrc : Src Tryz.prog size tx y m news w)
    (hlen : n + m ≤ 100000000) (hbase : base ≤ w.heap.size)
    (h : ∀ v' w', w'.ownsRow base e size v' (n + m) (xs ++ news) → w.grownBy w' v.ownBlock → (v'.ownBlock = v.ownBlock ∨ v'.ownBlock = some w.heap.size) → K (a.put o.dst v') w') :
    if Region.wanted o (yielded ops a.tmps) = true then Oper.wp Tryz.prog o a w K Q else E := by
  have hw : Region.wanted o (yielded ops a.tmps) = true := by simp [Region.wanted, hgd]
  rw [if_pos hw]
  exact wp_app t tx ht hin hzs hby s x ho base v n xs hs hown y m news hx hsrc hlen hbase h
end
theorem own_alloc (w : World) (e : TypeId) (size : Nat) (base b : Nat) (h : b = w.heap.size) (hb : base ≤ w.heap.size) : (w.alloc (.cells #[] e)).ownsRow base e size (.slice (some ⟨b, 0, none⟩) 0 0) 0 [] := by
  subst h
  have h := World.ownsRow_made (base := base) (e := e) (size := size) w #[] 0 hb (Nat.zero_le _) (by simp)
  simpa using h

theorem cP_one (ps : List (Nat × Nat)) : ∀ u ∈ cP ps, u.oneCell' = true := by
  induction ps with
  | nil => intro u hu; simp [cP] at hu
  | cons p t ih =>
    intro u hu
    simp only [cP, List.flatMap_cons, List.mem_append] at hu
    rcases hu with hu | hu
    · simp at hu; rcases hu with rfl | rfl <;> rfl
    · exact ih u hu
end Go.Proofs.YtlaijbkonapdbaaGreat

namespace Go.Proofs.YtlaijbkonapdbaaGreat
open Go.RowKit
attribute [local go_sem] grow_cell grow_frozen conv_one

/-- the cells of a boxed Known stay -/
theorem held6 {w w' : World} (hg : G w w') {b : Nat} {v0 v1 v2 v3 v4 v5 : Value}
    (h : b < w.heap.size ∧ w.cell? ⟨b, 0, none⟩ = some v0 ∧ w.cell? ⟨b, 1, none⟩ = some v1 ∧ w.cell? ⟨b, 2, none⟩ = some v2 ∧ w.cell? ⟨b, 3, none⟩ = some v3 ∧ w.cell? ⟨b, 4, none⟩ = some v4 ∧ w.cell? ⟨b, 5, none⟩ = some v5) :
    b < w'.heap.size ∧ w'.cell? ⟨b, 0, none⟩ = some v0 ∧ w'.cell? ⟨b, 1, none⟩ = some v1 ∧ w'.cell? ⟨b, 2, none⟩ = some v2 ∧ w'.cell? ⟨b, 3, none⟩ = some v3 ∧ w'.cell? ⟨b, 4, none⟩ = some v4 ∧ w'.cell? ⟨b, 5, none⟩ = some v5 := by
  obtain ⟨h1, h3, h4, h5, h6, h7, h8⟩ := h
  exact ⟨Nat.lt_of_lt_of_le h1 hg.size, (hg.cell (p := ⟨b, 0, none⟩) h1).trans h3, (hg.cell (p := ⟨b, 1, none⟩) h1).trans h4, (hg.cell (p := ⟨b, 2, none⟩) h1).trans h5, (hg.cell (p := ⟨b, 3, none⟩) h1).trans h6, (hg.cell (p := ⟨b, 4, none⟩) h1).trans h7, (hg.cell (p := ⟨b, 5, none⟩) h1).trans h8⟩

/-- what a call that gives a Known of its own says -/
def GivesK (k : M.Kn) (w : World) (e : Ending) (w' : World) : Prop := (∃ A c, e = .returned (knV k A c) ∧ w'.ownsRow w.heap.size 98 2 (.slice A k.ps.length c) k.ps.length (cP k.ps)) ∧ G w w'

theorem results_cells {P : Program} {fn : Func} {p : Tmp} {ty : TypeId} (h : fn.results = #[.cell p ty]) (tmps : Array Value) (w : World) (g : Nat) (cs : List Value) (d : TypeDesc)
    (hp : tmps.getD p undef = .pointer (some ⟨g, 0, none⟩)) (hc : ∀ j v, cs[j]? = some v → w.cell? ⟨g, j, none⟩ = some v)
    (hu : P.underlying ty = some d) (hd : (match d with | .struct _ | .array _ _ => true | _ => false) = true) (hi : (P.info? ty).map (·.size) = some cs.length) :
    (results fn tmps).run P w = .ok (.agg cs.toArray) w := by
  have hl : (loadCells ⟨g, 0, none⟩ cs.length).run P w = .ok cs.toArray w :=
    run_loadCells_list (P := P) w ⟨g, 0, none⟩ cs (fun j v hv => by
      have hadd : (⟨g, 0, none⟩ : Addr).add j = ⟨g, j, none⟩ := by unfold Addr.add; split <;> simp_all
      rw [hadd]; exact hc j v hv)
  have hp' : tmps[p]?.getD undef = .pointer (some ⟨g, 0, none⟩) := by simpa using hp
  cases hq : P.info? ty with
  | none => simp [hq] at hi
  | some i =>
    have hs : i.size = cs.length := by simpa [hq] using hi
    have hagg : (isAgg ty).run P w = .ok true w := by
      unfold isAgg
      rw [Sem.run_bind, run_underlying hu w]
      cases d <;> simp_all
    have hlv : (loadVar ty ⟨g, 0, none⟩).run P w = .ok (.agg cs.toArray) w := by simp [loadVar, Sem.run_bind, hagg, sizeOf, typeInfo, hq, hs, hl]
    simp [results, h, hp', asAddr, hlv]
theorem cells6 {w : World} {g : Nat} {v0 v1 v2 v3 v4 v5 : Value} (h0 : w.cell? ⟨g, 0, none⟩ = some v0) (h1 : w.cell? ⟨g, 1, none⟩ = some v1) (h2 : w.cell? ⟨g, 2, none⟩ = some v2) (h3 : w.cell? ⟨g, 3, none⟩ = some v3) (h4 : w.cell? ⟨g, 4, none⟩ = some v4) (h5 : w.cell? ⟨g, 5, none⟩ = some v5) :
    ∀ j v, [v0, v1, v2, v3, v4, v5][j]? = some v → w.cell? ⟨g, j, none⟩ = some v := by
  intro j v hv
  match j with
  | 0 => simp at hv; rw [h0, hv]
  | 1 => simp at hv; rw [h1, hv]
  | 2 => simp at hv; rw [h2, hv]
  | 3 => simp at hv; rw [h3, hv]
  | 4 => simp at hv; rw [h4, hv]
  | 5 => simp at hv; rw [h5, hv]
  | n + 6 => simp at hv

theorem own_cap {w : World} {base : Nat} {e : TypeId} {size n c : Nat} {A : Option Addr} {xs : List Value} (h : w.ownsRow base e size (.slice A n c) n xs) : n ≤ c := by
  rcases h.2 with ⟨hv, h0⟩ | ⟨g, cap, cur, hv, _, _, hc, _⟩
  · omega
  · injection hv with h1 h2 h3; omega

section
variable (k : M.Kn) (hk : k.V) (A : Option Addr) (c : Nat) (hc : k.ps.length ≤ c) (w : World) (hr : Rds w 2 A k.ps.length (cP k.ps))
include hk hr hc

set_option maxHeartbeats 2000000 in
theorem v_l2Cleared : Calls Tryz.prog 111 #[knV k A c] w fun e w' => GivesK k.cleared w e w' := by
  have hnx : k.nxt ≤ 2000 := by have h1 := hk.nxt_le; have h2 := hk.s.l1024; omega
  have hps : k.ps.length ≤ 2000 := by unfold M.Kn.nxt at hnx; omega
  have hb := hk.base
  have HR := Lib.hid hr
  have b1 : (0 : Int) ≤ (k.base : Int) := by omega
  have b2 : (k.base : Int) ≤ (c : Int) := by omega
  go_enter Tryz.func111, Tryz.ntmps111
  go_wp2
  have hS0 : w.heap.size < (w.alloc (.cells #[.int .i64 k.s.ord, .int .i64 k.s.lit, .int .i64 k.s.most, .slice A k.ps.length c, .int .i64 k.base, .int .i64 k.last] 40)).heap.size ∧ (w.alloc (.cells #[.int .i64 k.s.ord, .int .i64 k.s.lit, .int .i64 k.s.most, .slice A k.ps.length c, .int .i64 k.base, .int .i64 k.last] 40)).cell? ⟨w.heap.size, 0, none⟩ = some (.int .i64 k.s.ord) ∧ (w.alloc (.cells #[.int .i64 k.s.ord, .int .i64 k.s.lit, .int .i64 k.s.most, .slice A k.ps.length c, .int .i64 k.base, .int .i64 k.last] 40)).cell? ⟨w.heap.size, 1, none⟩ = some (.int .i64 k.s.lit) ∧ (w.alloc (.cells #[.int .i64 k.s.ord, .int .i64 k.s.lit, .int .i64 k.s.most, .slice A k.ps.length c, .int .i64 k.base, .int .i64 k.last] 40)).cell? ⟨w.heap.size, 2, none⟩ = some (.int .i64 k.s.most) ∧ (w.alloc (.cells #[.int .i64 k.s.ord, .int .i64 k.s.lit, .int .i64 k.s.most, .slice A k.ps.length c, .int .i64 k.base, .int .i64 k.last] 40)).cell? ⟨w.heap.size, 3, none⟩ = some (.slice A k.ps.length c) ∧ (w.alloc (.cells #[.int .i64 k.s.ord, .int .i64 k.s.lit, .int .i64 k.s.most, .slice A k.ps.length c, .int .i64 k.base, .int .i64 k.last] 40)).cell? ⟨w.heap.size, 4, none⟩ = some (.int .i64 k.base) ∧ (w.alloc (.cells #[.int .i64 k.s.ord, .int .i64 k.s.lit, .int .i64 k.s.most, .slice A k.ps.length c, .int .i64 k.base, .int .i64 k.last] 40)).cell? ⟨w.heap.size, 5, none⟩ = some (.int .i64 k.last) := ⟨by simp, by go_cell, by go_cell, by go_cell, by go_cell, by go_cell, by go_cell⟩
  have hRt := hr.take k.base hb
  rw [cP_take] at hRt
  have HT := Lib.hid hRt
  clear hr hRt
  go_cut [2] (fun v wc => v = .pointer (some ⟨w.heap.size + 1, 0, none⟩) ∧ ∃ A' c', G w wc ∧ (wc.cell? ⟨w.heap.size + 1, 0, none⟩ = some (.int .i64 k.s.ord) ∧ wc.cell? ⟨w.heap.size + 1, 1, none⟩ = some (.int .i64 k.s.lit) ∧ wc.cell? ⟨w.heap.size + 1, 2, none⟩ = some (.int .i64 k.s.most) ∧ wc.cell? ⟨w.heap.size + 1, 3, none⟩ = some (.slice A' k.base c') ∧ wc.cell? ⟨w.heap.size + 1, 4, none⟩ = some (.int .i64 k.base) ∧ wc.cell? ⟨w.heap.size + 1, 5, none⟩ = some (.int .i64 (-1))) ∧ wc.ownsRow (w.heap.size + 2) 98 2 (.slice A' k.base c') k.base (cP (k.ps.take k.base)))
  case first =>
    go_region_held3 (fun w' => w.heap.size < w'.heap.size ∧ w'.cell? ⟨w.heap.size, 0, none⟩ = some (.int .i64 k.s.ord) ∧ w'.cell? ⟨w.heap.size, 1, none⟩ = some (.int .i64 k.s.lit) ∧ w'.cell? ⟨w.heap.size, 2, none⟩ = some (.int .i64 k.s.most) ∧ w'.cell? ⟨w.heap.size, 3, none⟩ = some (.slice A k.ps.length c) ∧ w'.cell? ⟨w.heap.size, 4, none⟩ = some (.int .i64 k.base) ∧ w'.cell? ⟨w.heap.size, 5, none⟩ = some (.int .i64 k.last)) (exact held6 (by repeat' (first | (with_reducible exact G.refl _) | (with_reducible assumption) | (with_reducible refine G.alloc ?_ _) | (with_reducible refine G.drew ?_) | (with_reducible refine G.drewN ?_ _) | (refine G.setCell ?_ (by first | (simp <;> done) | (simp <;> omega)) _) | (with_reducible refine G.trans ?_ (by with_reducible assumption)))) hS0) (first | (refine step_app 38 38 Tryz.underlying38 pair_info rfl (by omega) rfl (.tmp 5) (.tmp 10) rfl (w.heap.size + 2) _ 0 [] rfl (own_alloc _ 98 2 (w.heap.size + 2) _ (by simp) (by simp)) _ k.base _ rfl (Src.ofRds Tryz.underlying38 (HT.out.g (by repeat' (first | (with_reducible exact G.refl _) | (with_reducible assumption) | (with_reducible refine G.alloc ?_ _) | (with_reducible refine G.drew ?_) | (with_reducible refine G.drewN ?_ _) | (refine G.setCell ?_ (by first | (simp <;> done) | (simp <;> omega)) _) | (with_reducible refine G.trans ?_ (by with_reducible assumption))))) (cP_one _)) (by omega) (by simp) ?_; intro v1 w1 hown1 hg1 hat1; obtain ⟨A1, c1, rfl⟩ := own_form hown1; have hG1 := G.grown (((G.refl ((w.alloc (.cells #[.int .i64 k.s.ord, .int .i64 k.s.lit, .int .i64 k.s.most, .slice A k.ps.length c, .int .i64 k.base, .int .i64 k.last] 40)).alloc _)).drew).alloc _) hg1 (fun g h => by have h2 : w.heap.size + 1 + 1 = g := Option.some.inj h; rw [← h2]; simp); have hG2 := (((G.refl (w.alloc (.cells #[.int .i64 k.s.ord, .int .i64 k.s.lit, .int .i64 k.s.most, .slice A k.ps.length c, .int .i64 k.base, .int .i64 k.last] 40))).alloc _).trans hG1); obtain ⟨hcg, hfg⟩ := gcell hG1))
    go_wp2_with fail
    go_meet
    simp only [Nat.zero_add, List.nil_append] at hown1
    refine ⟨rfl, A1, c1, (by repeat' (first | (with_reducible exact G.refl _) | (with_reducible assumption) | (with_reducible refine G.alloc ?_ _) | (with_reducible refine G.drew ?_) | (with_reducible refine G.drewN ?_ _) | (refine G.setCell ?_ (by first | (simp <;> done) | (simp <;> omega)) _) | (with_reducible refine G.trans ?_ (by with_reducible assumption)))), ⟨by go_cell, by go_cell, by go_cell, by go_cell, by go_cell, by go_cell⟩, ?_⟩
    repeat' (first | with_reducible exact hown1 | with_reducible refine ownsRow_setCell_below ?_ (by simp) _)
  case rest =>
    obtain ⟨rfl, A1, c1, hG, ⟨k0, k1, k2, k3, k4, k5⟩, hR⟩ := hcut
    go_wp2
    refine bodyPost_ret (results_cells rfl _ _ (w.heap.size + 1) [_, _, _, _, _, _] _ rfl (cells6 k0 k1 k2 k3 k4 k5) Tryz.underlying40 rfl (by kernel_rfl)) rfl ?_
    have e3 : k.cleared.ps.length = k.base := by simp [M.Kn.cleared]; omega
    refine ⟨⟨A1, c1, ?_, ?_⟩, hG⟩
    · show _ = Ending.returned (.agg #[_, _, _, .slice A1 k.cleared.ps.length c1, _, _])
      rw [e3]; rfl
    · rw [e3]; exact own_mono hR (by omega)
end
end Go.Proofs.YtlaijbkonapdbaaGreat
