/-
  FnExactAppendDataSaid is proved: for every input FnExactAppendData returns true, and each argument reads afterwards as it read before; no conditions. Part 15 of 25.
-/
import Derived.Test.YtlaijbkonapdbaaGreatA14

set_option linter.all false

namespace Go.Proofs.YtlaijbkonapdbaaGreat
open Go.RowKit
attribute [local go_sem] grow_cell grow_frozen conv_one
open Go.PlainAid (bt get_bt bt_nonneg bt_le)
section
variable (k : M.Kn) (hk : k.V) (w : FW) (W : World) (g : Nat) (A0 : Option Addr) (c0 : Nat) (An : Option Addr) (cn : Nat) (Ai : Option Addr) (ci : Nat) (hT : TB w W g k A0 c0 An cn Ai ci)
include hk hT
set_option maxRecDepth 8000 in
set_option maxHeartbeats 4000000 in
theorem v_longest (d : M.Bytes) (hd : d ≠ []) (hfd : (d.headD 0).toNat < k.s.c) (b : ByteArray) (hb : bs b = d) (hbz : b.size ≤ 2000) :
    Calls Tryz.prog 84 #[.pointer (some ⟨g, 0, none⟩), .string b] W fun e w' => e = .returned (.tuple #[.int .i64 (k.longF d), .int .i64 (k.longW d).length]) ∧ G W w' := by
  have hlt := hT.lt
  have hTV := TV.of hk
  have hc256 := hk.s.c256
  have hkl := kL_len k hTV w W g A0 c0 An cn Ai ci hT
  have H : M.LOk k.s.c k.ps k.ps.length (kL k) := M.LL_ok k.s.c k.ps hk.pv hc256
  have HH := Lib.hid H
  have HB := Lib.hid hb
  have HD := Lib.hid hd
  have hbl : b.size = d.length := by rw [bs_size, hb]
  have HBL := Lib.hid hbl
  have hb1 : 1 ≤ b.size := by
    rw [hbl]; cases d with
    | nil => exact absurd rfl hd
    | cons => simp
  obtain ⟨x0, hx0⟩ : ∃ x0, d[0]? = some x0 := ⟨_, List.getElem?_eq_getElem (by omega)⟩
  have hbt0 := bt_bs hb 0 x0 hx0
  have hhd : d.headD 0 = x0 := by rw [List.headD_eq_head?_getD, List.head?_eq_getElem?, hx0]; rfl
  have hx0c : x0.toNat < k.s.c := by rw [← hhd]; exact hfd
  have HFD := Lib.hid hfd
  obtain ⟨hx0L, hL0⟩ : ∃ h : x0.toNat < (kL k).length, Hid (((kL k)[x0.toNat]).1 = d.take 1) := by
    have h : x0.toNat < (kL k).length := by omega
    refine ⟨h, ?_⟩
    show _ = _
    rw [H.lit _ h hx0c]
    show [UInt8.ofNat x0.toNat] = _
    rw [UInt8.ofNat_toNat, List.take_one, List.head?_eq_getElem?, hx0]; rfl
  have hget := get_bt b
  have hx8 := x0.toNat_lt
  obtain ⟨gn, hAn, hgn, hcell⟩ := (Rds.own hT.on).at_ (by rw [M.nodesOf_length]; omega)
  subst hAn
  have HC := Lib.hid hcell
  have HT := Lib.hid hT
  have hb0 : 0 < b.size := by omega
  have hkl2 := hkl.2
  clear hcell hd hb hbl hfd hhd hkl H hx0
  go_enter Tryz.func84, Tryz.ntmps84
  go_wp2
  go_loopw [6, 7] (fun x y wr => ∃ (n sz : Nat), x = .int .i64 n ∧ y = .int .i64 sz ∧ 1 ≤ sz ∧ sz ≤ b.size ∧ (∃ hn : n < (kL k).length, Hid (((kL k)[n]).1 = d.take sz)) ∧ G W wr) (fun _ y _ => b.size - (intOf y).toNat)
  case atStart => exact ⟨x0.toNat, 1, rfl, rfl, Nat.le_refl _, hb1, ⟨by omega, hL0.out⟩, (by repeat' (first | (with_reducible exact G.refl _) | (with_reducible assumption) | (with_reducible refine G.alloc ?_ _) | (with_reducible refine G.drew ?_) | (with_reducible refine G.drewN ?_ _) | (refine G.setCell ?_ (by first | (simp <;> done) | (simp <;> omega)) _) | (with_reducible refine G.trans ?_ (by with_reducible assumption))))⟩
  case round =>
    obtain ⟨n, sz, rfl, rfl, hs1, hs2, ⟨hn, HW⟩, hG⟩ := hrel
    have hTr := HT.out.up hG
    have hlr := hTr.lt
    obtain ⟨r0, r1, r2, r3, r4, r5, r6, r7⟩ := hTr.cells
    rw [M.nodesOf_length] at r6
    obtain ⟨d0, d1, d2, d3, d4, d5⟩ := cN_get _ n _ (M.nodesOf_get (kL k) n hn)
    have hsG := hG.size
    have hgnr : gn < wr.heap.size := by omega
    have e4 := (hG.cell (p := ⟨gn, n * 6 + 4, none⟩) hgn).trans (HC.out _ _ d4)
    have e5 := (hG.cell (p := ⟨gn, n * 6 + 5, none⟩) hgn).trans (HC.out _ _ d5)
    have hfst : Hid ((M.nd (kL k) n).first = (((kL k)[n]).1.headD 0).toNat) := by show _ = _; simp only [M.nd, M.getD_of_lt (kL k) n hn]
    have hcd : Hid ((M.nd (kL k) n).code = ((kL k)[n]).2) := by show _ = _; simp only [M.nd, M.getD_of_lt (kL k) n hn]
    have hend := fun hmax => M.Kn.longest_end hk HD.out HFD.out hn hs1 (by rw [← HBL.out]; exact hs2) HW.out hmax
    have HEND := Lib.hid hend
    have hf256 : (M.nd (kL k) n).first < 256 := by rw [hfst.out]; exact UInt8.toNat_lt _
    generalize (M.nd (kL k) n).first = fst at *
    generalize (M.nd (kL k) n).code = cd at *
    clear d0 d1 d2 d3 d4 d5 hend
    by_cases hlt2 : sz < b.size
    · obtain ⟨y, hy⟩ : ∃ y, d[sz]? = some y := ⟨_, List.getElem?_eq_getElem (by rw [← HBL.out]; exact hlt2)⟩
      have hbt := bt_bs HB.out sz y hy
      have hy8 := y.toNat_lt
      have htk : d.take (sz + 1) = ((kL k)[n]).1 ++ [y] := by rw [List.take_add_one, hy, HW.out]; rfl
      have HTK := Lib.hid htk
      have HY : Hid (d.getD sz 0 = y) := by show _ = _; rw [List.getD_eq_getElem?_getD, hy]; rfl
      clear hy htk
      by_cases hin : M.inL (kL k) (((kL k)[n]).1 ++ [y])
      · obtain ⟨q2, hq2, he2⟩ := hin
        have HE2 := Lib.hid he2
        clear he2
        go_wp2_with (first | (go_at_call 102; refine (v_child_yes k hTV w _ g A0 c0 _ cn Ai ci (hTr.up (by repeat' (first | (with_reducible exact G.refl _) | (with_reducible assumption) | (with_reducible refine G.alloc ?_ _) | (with_reducible refine G.drew ?_) | (with_reducible refine G.drewN ?_ _) | (refine G.setCell ?_ (by first | (simp <;> done) | (simp <;> omega)) _) | (with_reducible refine G.trans ?_ (by with_reducible assumption))))) n hn y y.toNat rfl q2 hq2 HE2.out).mono ?_; rintro e w' ⟨rfl, h2⟩; obtain ⟨hch2, hfh2⟩ := gcell h2) | fail)
        go_roundw
        case rel => exact ⟨q2, sz + 1, rfl, by go_num, by omega, by omega, ⟨hq2, by show _ = _; rw [HE2.out, HTK.out]⟩, (by repeat' (first | (with_reducible exact G.refl _) | (with_reducible assumption) | (with_reducible refine G.alloc ?_ _) | (with_reducible refine G.drew ?_) | (with_reducible refine G.drewN ?_ _) | (refine G.setCell ?_ (by first | (simp <;> done) | (simp <;> omega)) _) | (with_reducible refine G.trans ?_ (by with_reducible assumption))))⟩
        case measure => simp [intOf]; omega
      · have HIN := Lib.hid hin
        have HM : Hid (sz < d.length → ¬ M.inL (kL k) (d.take (sz + 1))) := fun _ => by rw [HTK.out]; exact HIN.out
        clear hin
        cases hgr : k.grows with
        | false =>
          have HGR := Lib.hid hgr
          have HNO : Hid (∀ W' : World, TB w W' g k A0 c0 (some ⟨gn, 0, none⟩) cn Ai ci → Calls Tryz.prog 101 #[.pointer (some ⟨g, 0, none⟩), .int .i64 0] W' fun e w' => e = .returned (.int .i64 (M.nodeI k.s.c k.ps 0)) ∧ G W' w') := by
            intro W' h; exact v_nodeOf k hTV w W' g A0 c0 _ cn Ai ci h 0 (Or.inl (by have := hk.s.c2; omega))
          have h2 := (HEND.out HM.out).2 (fun h => by rw [hgr] at h; exact absurd h.2.1 (by decide))
          have H1 : Hid (k.longF d = cd) := by show _ = _; rw [hcd.out]; exact h2.1
          have H2 := Lib.hid h2.2
          clear h2 hgr
          go_wp2_with (first | (go_at_call 102; refine (v_child_no k hTV w _ g A0 c0 _ cn Ai ci (hTr.up (by repeat' (first | (with_reducible exact G.refl _) | (with_reducible assumption) | (with_reducible refine G.alloc ?_ _) | (with_reducible refine G.drew ?_) | (with_reducible refine G.drewN ?_ _) | (refine G.setCell ?_ (by first | (simp <;> done) | (simp <;> omega)) _) | (with_reducible refine G.trans ?_ (by with_reducible assumption))))) n hn y y.toNat rfl HIN.out).mono ?_; rintro e w' ⟨rfl, h2⟩; obtain ⟨hch2, hfh2⟩ := gcell h2; have hz2 : g < w'.heap.size := (by have := h2.size; omega); have hz3 : gn < w'.heap.size := (by have := h2.size; omega); have hTr2 := hTr.up h2; obtain ⟨v0, v1, v2, v3, v4, v5, v6, v7⟩ := hTr2.cells; have f4 := (h2.cell (p := ⟨gn, n * 6 + 4, none⟩) (show gn < _ by omega)).trans e4; have f5 := (h2.cell (p := ⟨gn, n * 6 + 5, none⟩) (show gn < _ by omega)).trans e5) | fail)
          refine wp_region_quiet_below (by kernel_rfl) (by kernel_rfl) ?_
          repeat (first | go_big_quiet_step ((first | (go_at_call 83; exact qcall (v_grows k hk A0 c0 _ false HGR.out)) | (go_at_call 101; exact qcall (HNO.out _ (hTr2.up (G.grow _ _ _)))))) | quiet_step ((first | (go_at_call 83; exact qcall (v_grows k hk A0 c0 _ false HGR.out)) | (go_at_call 101; exact qcall (HNO.out _ (hTr2.up (G.grow _ _ _)))))))
          refine wpQuiet_nil ?_
          intro w' hw'
          have h9 := G.of_regrown hw'
          clear hw'
          obtain ⟨hch9, hfh9⟩ := gcell h9
          go_wp2
          go_ret2
          refine ⟨?_, (by repeat' (first | (with_reducible exact G.refl _) | (with_reducible assumption) | (with_reducible refine G.alloc ?_ _) | (with_reducible refine G.drew ?_) | (with_reducible refine G.drewN ?_ _) | (refine G.setCell ?_ (by first | (simp <;> done) | (simp <;> omega)) _) | (with_reducible refine G.trans ?_ (by with_reducible assumption))))⟩
          rw [H1.out, H2.out]; rfl
        | true =>
          have HGR := Lib.hid hgr
          have hgl := hk.grows_last hgr
          obtain ⟨l, hl⟩ : ∃ l : Nat, k.last = l := ⟨k.last.toNat, by omega⟩
          have hlt3 : k.last.toNat = l := by omega
          have hhas : M.has k.s.c k.ps.length l := by rw [← hlt3]; exact hgl.1
          obtain ⟨hq, hw⟩ := M.nodeI_spec hk.pv hc256 hhas
          obtain ⟨m, hm⟩ : ∃ m, M.nodeI k.s.c k.ps l = m := ⟨_, rfl⟩
          have HNO : Hid (∀ W' : World, TB w W' g k A0 c0 (some ⟨gn, 0, none⟩) cn Ai ci → Calls Tryz.prog 101 #[.pointer (some ⟨g, 0, none⟩), .int .i64 k.last] W' fun e w' => e = .returned (.int .i64 m) ∧ G W' w') := by
            intro W' h
            rw [hl, ← hm]
            exact v_nodeOf k hTV w W' g A0 c0 _ cn Ai ci h l hhas
          have hiff : ((kL k)[n]).1 = k.W k.last.toNat ↔ n = m := by
            rw [hlt3]
            constructor
            · intro h
              rw [← hm]
              exact HH.out.dist n _ hn hq (h.trans hw.symm)
            · intro h
              subst h
              subst hm
              exact hw
          by_cases hnm : n = m
          · have hnb : ((n : Int) == (m : Int)) = true := by simp [hnm]
            by_cases hyf : y.toNat = fst
            · have hyb : ((y.toNat : Int) == (fst : Int)) = true := by simp [hyf]
              have h2 := (HEND.out HM.out).1 ⟨by rw [← HBL.out]; exact hlt2, hgr, hiff.2 hnm, by rw [HY.out]; apply UInt8.toNat_inj.mp; rw [hyf, hfst.out]; rfl⟩
              have H1 := Lib.hid h2.1
              have H2 := Lib.hid h2.2
              clear h2 hgr hgl hlt3 hl hq hw hm hiff hnm hyf hhas
              go_wp2_with (first | (go_at_call 102; refine (v_child_no k hTV w _ g A0 c0 _ cn Ai ci (hTr.up (by repeat' (first | (with_reducible exact G.refl _) | (with_reducible assumption) | (with_reducible refine G.alloc ?_ _) | (with_reducible refine G.drew ?_) | (with_reducible refine G.drewN ?_ _) | (refine G.setCell ?_ (by first | (simp <;> done) | (simp <;> omega)) _) | (with_reducible refine G.trans ?_ (by with_reducible assumption))))) n hn y y.toNat rfl HIN.out).mono ?_; rintro e w' ⟨rfl, h2⟩; obtain ⟨hch2, hfh2⟩ := gcell h2; have hz2 : g < w'.heap.size := (by have := h2.size; omega); have hz3 : gn < w'.heap.size := (by have := h2.size; omega); have hTr2 := hTr.up h2; obtain ⟨v0, v1, v2, v3, v4, v5, v6, v7⟩ := hTr2.cells; have f4 := (h2.cell (p := ⟨gn, n * 6 + 4, none⟩) (show gn < _ by omega)).trans e4; have f5 := (h2.cell (p := ⟨gn, n * 6 + 5, none⟩) (show gn < _ by omega)).trans e5) | fail)
              refine wp_region_quiet_below (by kernel_rfl) (by kernel_rfl) ?_
              repeat (first | go_big_quiet_step ((first | (go_at_call 83; exact qcall (v_grows k hk A0 c0 _ true HGR.out)) | (go_at_call 101; exact qcall (HNO.out _ (hTr2.up (G.grow _ _ _)))))) | quiet_step ((first | (go_at_call 83; exact qcall (v_grows k hk A0 c0 _ true HGR.out)) | (go_at_call 101; exact qcall (HNO.out _ (hTr2.up (G.grow _ _ _)))))))
              refine wpQuiet_nil ?_
              intro w' hw'
              have h9 := G.of_regrown hw'
              clear hw'
              obtain ⟨hch9, hfh9⟩ := gcell h9
              go_wp2_with (first | (go_at_call 100; refine (v_nextWord2 k hTV A0 c0 _).mono ?_; rintro e w' ⟨rfl, h10⟩; obtain ⟨hch10, hfh10⟩ := gcell h10; try (have hzh10 : w.heap.size < w'.heap.size := by have := h10.size; (try simp at this); omega); try (have hyh10 : w.heap.size + 1 < w'.heap.size := by have := h10.size; (try simp at this); omega)) | fail)
              go_ret2
              refine ⟨?_, (by repeat' (first | (with_reducible exact G.refl _) | (with_reducible assumption) | (with_reducible refine G.alloc ?_ _) | (with_reducible refine G.drew ?_) | (with_reducible refine G.drewN ?_ _) | (refine G.setCell ?_ (by first | (simp <;> done) | (simp <;> omega)) _) | (with_reducible refine G.trans ?_ (by with_reducible assumption))))⟩
              rw [H1.out, H2.out]; simp
            · have hyb : ((y.toNat : Int) == (fst : Int)) = false := by simp; omega
              have hpre : ¬ (sz < d.length ∧ k.grows = true ∧ ((kL k)[n]).1 = k.W k.last.toNat ∧ d.getD sz 0 = ((kL k)[n]).1.headD 0) := by
                rintro ⟨_, _, _, h⟩; rw [HY.out] at h; exact hyf (by rw [h, hfst.out])
              have h2 := (HEND.out HM.out).2 (hpre)
              have H1 : Hid (k.longF d = cd) := by show _ = _; rw [hcd.out]; exact h2.1
              have H2 := Lib.hid h2.2
              clear h2 hgr hgl hlt3 hl hq hw hm hiff hnm hyf hhas hpre
              go_wp2_with (first | (go_at_call 102; refine (v_child_no k hTV w _ g A0 c0 _ cn Ai ci (hTr.up (by repeat' (first | (with_reducible exact G.refl _) | (with_reducible assumption) | (with_reducible refine G.alloc ?_ _) | (with_reducible refine G.drew ?_) | (with_reducible refine G.drewN ?_ _) | (refine G.setCell ?_ (by first | (simp <;> done) | (simp <;> omega)) _) | (with_reducible refine G.trans ?_ (by with_reducible assumption))))) n hn y y.toNat rfl HIN.out).mono ?_; rintro e w' ⟨rfl, h2⟩; obtain ⟨hch2, hfh2⟩ := gcell h2; have hz2 : g < w'.heap.size := (by have := h2.size; omega); have hz3 : gn < w'.heap.size := (by have := h2.size; omega); have hTr2 := hTr.up h2; obtain ⟨v0, v1, v2, v3, v4, v5, v6, v7⟩ := hTr2.cells; have f4 := (h2.cell (p := ⟨gn, n * 6 + 4, none⟩) (show gn < _ by omega)).trans e4; have f5 := (h2.cell (p := ⟨gn, n * 6 + 5, none⟩) (show gn < _ by omega)).trans e5) | fail)
              refine wp_region_quiet_below (by kernel_rfl) (by kernel_rfl) ?_
              repeat (first | go_big_quiet_step ((first | (go_at_call 83; exact qcall (v_grows k hk A0 c0 _ true HGR.out)) | (go_at_call 101; exact qcall (HNO.out _ (hTr2.up (G.grow _ _ _)))))) | quiet_step ((first | (go_at_call 83; exact qcall (v_grows k hk A0 c0 _ true HGR.out)) | (go_at_call 101; exact qcall (HNO.out _ (hTr2.up (G.grow _ _ _)))))))
              refine wpQuiet_nil ?_
              intro w' hw'
              have h9 := G.of_regrown hw'
              clear hw'
              obtain ⟨hch9, hfh9⟩ := gcell h9
              go_wp2
              go_ret2
              refine ⟨?_, (by repeat' (first | (with_reducible exact G.refl _) | (with_reducible assumption) | (with_reducible refine G.alloc ?_ _) | (with_reducible refine G.drew ?_) | (with_reducible refine G.drewN ?_ _) | (refine G.setCell ?_ (by first | (simp <;> done) | (simp <;> omega)) _) | (with_reducible refine G.trans ?_ (by with_reducible assumption))))⟩
              rw [H1.out, H2.out]; rfl
          · have hnb : ((n : Int) == (m : Int)) = false := by simp; omega
            have hpre : ¬ (sz < d.length ∧ k.grows = true ∧ ((kL k)[n]).1 = k.W k.last.toNat ∧ d.getD sz 0 = ((kL k)[n]).1.headD 0) := by
              rintro ⟨_, _, h, _⟩; exact hnm (hiff.1 h)
            have h2 := (HEND.out HM.out).2 (hpre)
            have H1 : Hid (k.longF d = cd) := by show _ = _; rw [hcd.out]; exact h2.1
            have H2 := Lib.hid h2.2
            clear h2 hgr hgl hlt3 hl hq hw hm hiff hnm hhas hpre
            go_wp2_with (first | (go_at_call 102; refine (v_child_no k hTV w _ g A0 c0 _ cn Ai ci (hTr.up (by repeat' (first | (with_reducible exact G.refl _) | (with_reducible assumption) | (with_reducible refine G.alloc ?_ _) | (with_reducible refine G.drew ?_) | (with_reducible refine G.drewN ?_ _) | (refine G.setCell ?_ (by first | (simp <;> done) | (simp <;> omega)) _) | (with_reducible refine G.trans ?_ (by with_reducible assumption))))) n hn y y.toNat rfl HIN.out).mono ?_; rintro e w' ⟨rfl, h2⟩; obtain ⟨hch2, hfh2⟩ := gcell h2; have hz2 : g < w'.heap.size := (by have := h2.size; omega); have hz3 : gn < w'.heap.size := (by have := h2.size; omega); have hTr2 := hTr.up h2; obtain ⟨v0, v1, v2, v3, v4, v5, v6, v7⟩ := hTr2.cells; have f4 := (h2.cell (p := ⟨gn, n * 6 + 4, none⟩) (show gn < _ by omega)).trans e4; have f5 := (h2.cell (p := ⟨gn, n * 6 + 5, none⟩) (show gn < _ by omega)).trans e5) | fail)
            refine wp_region_quiet_below (by kernel_rfl) (by kernel_rfl) ?_
            repeat (first | go_big_quiet_step ((first | (go_at_call 83; exact qcall (v_grows k hk A0 c0 _ true HGR.out)) | (go_at_call 101; exact qcall (HNO.out _ (hTr2.up (G.grow _ _ _)))))) | quiet_step ((first | (go_at_call 83; exact qcall (v_grows k hk A0 c0 _ true HGR.out)) | (go_at_call 101; exact qcall (HNO.out _ (hTr2.up (G.grow _ _ _)))))))
            refine wpQuiet_nil ?_
            intro w' hw'
            have h9 := G.of_regrown hw'
            clear hw'
            obtain ⟨hch9, hfh9⟩ := gcell h9
            go_wp2
            go_ret2
            refine ⟨?_, (by repeat' (first | (with_reducible exact G.refl _) | (with_reducible assumption) | (with_reducible refine G.alloc ?_ _) | (with_reducible refine G.drew ?_) | (with_reducible refine G.drewN ?_ _) | (refine G.setCell ?_ (by first | (simp <;> done) | (simp <;> omega)) _) | (with_reducible refine G.trans ?_ (by with_reducible assumption))))⟩
            rw [H1.out, H2.out]; rfl
    · have hsz : sz = b.size := by omega
      have HM : Hid (sz < d.length → ¬ M.inL (kL k) (d.take (sz + 1))) := fun h => absurd h (by rw [← HBL.out]; omega)
      have h2 := (HEND.out HM.out).2 (fun h => absurd h.1 (by rw [← HBL.out]; omega))
      have H1 : Hid (k.longF d = cd) := by show _ = _; rw [hcd.out]; exact h2.1
      have H2 := Lib.hid h2.2
      clear h2
      go_wp2
      refine wp_region_quiet_below (by kernel_rfl) (by kernel_rfl) ?_
      repeat (first | go_big_quiet_step (fail) | quiet_step (fail))
      refine wpQuiet_nil ?_
      intro w' hw'
      have h9 := G.of_regrown hw'
      clear hw'
      obtain ⟨hch9, hfh9⟩ := gcell h9
      go_wp2
      go_ret2
      refine ⟨?_, (by repeat' (first | (with_reducible exact G.refl _) | (with_reducible assumption) | (with_reducible refine G.alloc ?_ _) | (with_reducible refine G.drew ?_) | (with_reducible refine G.drewN ?_ _) | (refine G.setCell ?_ (by first | (simp <;> done) | (simp <;> omega)) _) | (with_reducible refine G.trans ?_ (by with_reducible assumption))))⟩
      rw [H1.out, H2.out]; rfl
end
end Go.Proofs.YtlaijbkonapdbaaGreat

namespace Go.Proofs.YtlaijbkonapdbaaGreat
open Go.RowKit
attribute [local go_sem] grow_cell grow_frozen conv_one

def litNd (b : Nat) : M.Nd := { par := -1, child := -1, next := -1, last := b, first := b, code := b }
theorem nodes_lits (c : Nat) (hc : c ≤ 256) : M.nodesOf (M.LL c []) = (List.range c).map litNd := by
  have hL : M.LL c [] = M.lits c := rfl
  have hlen : (M.lits c).length = c := by simp [M.lits]
  have hget : ∀ i, i < c → (M.lits c).getD i ([], 0) = ([UInt8.ofNat i], i) := by
    intro i hi; simp [M.lits, List.getD_eq_getElem?_getD, hi]
  rw [hL]
  unfold M.nodesOf
  rw [hlen]
  apply List.map_congr_left
  intro i hi
  have hi := List.mem_range.1 hi
  have hch : M.lc (M.lits c) i (M.lits c).length = -1 := by
    apply M.lc_none
    intro j hj
    rw [hlen] at hj
    unfold M.isChild
    rw [hget j hj]
    simp
  unfold M.nd litNd
  rw [hget i hi, hch]
  have h8 : (UInt8.ofNat i).toNat = i := by rw [UInt8.toNat_ofNat']; omega
  simp [h8]
/-- the first pairs alone -/
def takeK (k : M.Kn) (m : Nat) : M.Kn := { k with ps := k.ps.take m }
theorem TV.takeK {k : M.Kn} (h : k.V) (m : Nat) : TV (takeK k m) := ⟨h.s, h.pv.take m, by
  have h1 := h.nxt_le
  have h2 : (Go.Proofs.YtlaijbkonapdbaaGreat.takeK k m).ps.length ≤ k.ps.length := by show (k.ps.take m).length ≤ _; rw [List.length_take]; omega
  unfold M.Kn.nxt at h1 ⊢
  show k.s.c + 2 + _ ≤ k.s.l + 1
  omega⟩
theorem takeK_succ (k : M.Kn) (m : Nat) (h : m < k.ps.length) : addP (takeK k m) (k.ps[m].1, k.ps[m].2) = takeK k (m + 1) := by
  unfold addP takeK
  simp only [List.take_add_one, List.getElem?_eq_getElem h]
  rfl
theorem takeK_all (k : M.Kn) : takeK k k.ps.length = k := by unfold takeK; rw [List.take_length]

section
variable (k : M.Kn) (hk : k.V) (A : Option Addr) (c : Nat) (w : World) (hr : Rds w 2 A k.ps.length (cP k.ps)) (hA : ∀ a, A = some a → a.block < w.heap.size)
include hk hr hA
set_option maxRecDepth 8000 in
set_option maxHeartbeats 4000000 in
theorem v_newTree : Calls Tryz.prog 81 #[knV k A c] w fun e W' => e = .returned (.pointer (some ⟨w.heap.size + 1, 0, none⟩)) ∧ ∃ A0 c0 An cn Ai ci, TB (FW.of w) W' (w.heap.size + 1) k A0 c0 An cn Ai ci := by
  have hs := hk.s
  have hc256 := hs.c256
  have hps : k.ps.length ≤ 1024 := by have h1 := hk.nxt_le; have := hk.s.l1024; unfold M.Kn.nxt at h1; omega
  have HR := Lib.hid hr
  have HA := Lib.hid hA
  have HV := Lib.hid hk
  have hA0 : k.ps.length = 0 ∨ ∃ ga : Nat, A = some ⟨ga, 0, none⟩ := by
    rcases Nat.eq_zero_or_pos k.ps.length with h | h
    · exact Or.inl h
    · obtain ⟨ga, h2, _⟩ := hr.at_ h; exact Or.inr ⟨ga, h2⟩
  clear hr hA
  rcases hA0 with hz0 | ⟨ga, rfl⟩
  case inl =>
    go_enter Tryz.func81, Tryz.ntmps81
    go_wp2_with (first | (go_at_call 80; refine (v_ClearCode k.s hs _).mono ?_; rintro e w' ⟨rfl, h1⟩; obtain ⟨hch1, hfh1⟩ := gcell h1; have hs1 := h1.size) | fail)
    have hT1 : TG (FW.of w) w' (w.heap.size + 1) k.s [] k.base k.last [] [] none 0 none 0 none 0 :=
      ⟨(h1.heap (by simp)).trans (alloc_at _ _ _ (by simp)), World.ownsRow_nil _ _ _ _, World.ownsRow_nil _ _ _ _, World.ownsRow_nil _ _ _ _, fun x hx => by simp at hx, fun x hx => by simp at hx, by show w.heap.size ≤ _; omega, show G w _ from (by repeat' (first | (with_reducible exact G.refl _) | (with_reducible assumption) | (with_reducible refine G.alloc ?_ _) | (with_reducible refine G.drew ?_) | (with_reducible refine G.drewN ?_ _) | (refine G.setCell ?_ (by first | (simp <;> done) | (simp <;> omega)) _) | (with_reducible refine G.trans ?_ (by with_reducible assumption)))), PR.of⟩
    have hbx : w'.cell? ⟨w.heap.size, 3, none⟩ = some (.slice A k.ps.length c) := by go_cell
    clear hch1 hfh1 h1 hs1
    go_loopw [17] (fun x wr => ∃ (m : Nat) (N : List M.Nd) (An : Option Addr) (cn : Nat), x = .int .i64 m ∧ m ≤ k.s.c ∧ Hid (N = (List.range m).map litNd) ∧ N.length ≤ 256 ∧ TG (FW.of w) wr (w.heap.size + 1) k.s [] k.base k.last N [] none 0 An cn none 0 ∧ wr.cell? ⟨w.heap.size, 3, none⟩ = some (.slice A k.ps.length c)) (fun x _ => k.s.c - (intOf x).toNat)
    case atStart => exact ⟨0, [], none, 0, rfl, by omega, rfl, by simp, hT1, hbx⟩
    case round =>
      obtain ⟨m, N, An, cn, rfl, hm, HN, hNl, hTr, hbr⟩ := hrel
      have hlr := hTr.lt
      have hlr2 : w.heap.size < wr.heap.size := by omega
      have hfr := hTr.fz
      obtain ⟨q0, q1, q2, q3, q4, q5, q6, q7⟩ := hTr.cells
      by_cases hlt : m < k.s.c
      · have hm8 : (m : Int) % 256 = m := by omega
        have hN2 : Hid (N ++ [litNd m] = (List.range (m + 1)).map litNd) := by show _ = _; rw [List.range_succ, List.map_append, ← HN.out]; rfl
        have hN3 : (N ++ [litNd m]).length ≤ 256 := by rw [hN2.out]; simp; omega
        go_wp2_with (first | (at_builtin; refine app 103 103 Tryz.underlying103 node_info (by rfl) (by omega) rfl (.tmp 24) (.tmp 31) (by rfl) (w.heap.size + 1 + 1) _ N.length (cN N) (by rfl) (hTr.on.alloc _) _ 1 (cN [litNd m]) (by rfl) (src_nd _ _ (litNd m) (heap_alloc_new _ _)) (by omega) (by simp; omega) ?_; intro v3 w3 hown3 hgw3 hatw3; obtain ⟨An3, cn3, rfl⟩ := own_form hown3; obtain ⟨hg3, hfz3, r0, r1, r3, r4, r5, r6, r7, r8⟩ := TG.farc (hTr.up (by repeat' (first | (with_reducible exact G.refl _) | (with_reducible assumption) | (with_reducible refine G.alloc ?_ _) | (with_reducible refine G.drew ?_) | (with_reducible refine G.drewN ?_ _) | (refine G.setCell ?_ (by first | (simp <;> done) | (simp <;> omega)) _) | (with_reducible refine G.trans ?_ (by with_reducible assumption))))) hgw3 (own_above hTr.on); have hT3 := TG.app6 (hTr.up (by repeat' (first | (with_reducible exact G.refl _) | (with_reducible assumption) | (with_reducible refine G.alloc ?_ _) | (with_reducible refine G.drew ?_) | (with_reducible refine G.drewN ?_ _) | (refine G.setCell ?_ (by first | (simp <;> done) | (simp <;> omega)) _) | (with_reducible refine G.trans ?_ (by with_reducible assumption))))) (x := litNd m) hgw3 hown3 hatw3; have hb3 := (GR.cell (show GR _ w3 _ from hgw3) (g := w.heap.size) (by simp; omega) (fun e => by have := own_base hTr.on e; omega) 3); have hb4 : (w3.setCell ⟨w.heap.size + 1, 6, none⟩ (.slice An3 (N.length + 1) cn3)).cell? ⟨w.heap.size, 3, none⟩ = some (.slice A k.ps.length c) := (by rw [World.cell?_setCell_other _ _ _ _ (by simp), hb3]; go_cell)) | fail)
        go_roundw
        case rel => exact ⟨m + 1, N ++ [litNd m], An3, cn3, by go_num, by omega, hN2.out, hN3, hT3, hb4⟩
        case measure => simp [intOf]; omega
      · have hmc : m = k.s.c := by omega
        have hNL : N = M.nodesOf (kL (takeK k 0)) := by
          rw [HN.out, hmc]
          show _ = M.nodesOf (M.LL k.s.c (k.ps.take 0))
          rw [List.take_zero, nodes_lits _ hc256]
        have hT0 : TB (FW.of w) wr (w.heap.size + 1) (takeK k 0) none 0 An cn none 0 := by
          show TG (FW.of w) wr (w.heap.size + 1) k.s (k.ps.take 0) k.base k.last (M.nodesOf (kL (takeK k 0))) (M.idxs k.s.c (k.ps.take 0)) none 0 An cn none 0
          rw [← hNL, List.take_zero]; exact hTr
        clear q0 q1 q2 q3 q4 q5 q6 q7 hfr hTr hNL hNl hmc
        go_wp2
        go_loopw [39] (fun x wr2 => ∃ (m2 : Nat) (A0 : Option Addr) (c0 : Nat) (An : Option Addr) (cn : Nat) (Ai : Option Addr) (ci : Nat), x = .int .i64 m2 ∧ m2 ≤ k.ps.length ∧ TB (FW.of w) wr2 (w.heap.size + 1) (takeK k m2) A0 c0 An cn Ai ci) (fun x _ => k.ps.length - (intOf x).toNat)
        case atStart => exact ⟨0, _, _, _, _, _, _, rfl, by omega, hT0⟩
        case round =>
          obtain ⟨m2, A0, c0, An2, cn2, Ai, ci, rfl, hm2, hT2⟩ := hrel
          have hl2 := hT2.lt
          have HT2 := Lib.hid hT2
          by_cases hlt2 : m2 < k.ps.length
          · exfalso; omega
          · go_wp2
            go_ret
            have h9 : takeK k m2 = k := by rw [show m2 = k.ps.length by omega]; exact takeK_all k
            rw [h9] at hT2
            exact ⟨rfl, A0, c0, An2, cn2, Ai, ci, hT2⟩
  case inr =>
    go_enter Tryz.func81, Tryz.ntmps81
    go_wp2_with (first | (go_at_call 80; refine (v_ClearCode k.s hs _).mono ?_; rintro e w' ⟨rfl, h1⟩; obtain ⟨hch1, hfh1⟩ := gcell h1; have hs1 := h1.size) | fail)
    have hT1 : TG (FW.of w) w' (w.heap.size + 1) k.s [] k.base k.last [] [] none 0 none 0 none 0 :=
      ⟨(h1.heap (by simp)).trans (alloc_at _ _ _ (by simp)), World.ownsRow_nil _ _ _ _, World.ownsRow_nil _ _ _ _, World.ownsRow_nil _ _ _ _, fun x hx => by simp at hx, fun x hx => by simp at hx, by show w.heap.size ≤ _; omega, show G w _ from (by repeat' (first | (with_reducible exact G.refl _) | (with_reducible assumption) | (with_reducible refine G.alloc ?_ _) | (with_reducible refine G.drew ?_) | (with_reducible refine G.drewN ?_ _) | (refine G.setCell ?_ (by first | (simp <;> done) | (simp <;> omega)) _) | (with_reducible refine G.trans ?_ (by with_reducible assumption)))), PR.of⟩
    have hbx : w'.cell? ⟨w.heap.size, 3, none⟩ = some (.slice (some ⟨ga, 0, none⟩) k.ps.length c) := by go_cell
    clear hch1 hfh1 h1 hs1
    go_loopw [17] (fun x wr => ∃ (m : Nat) (N : List M.Nd) (An : Option Addr) (cn : Nat), x = .int .i64 m ∧ m ≤ k.s.c ∧ Hid (N = (List.range m).map litNd) ∧ N.length ≤ 256 ∧ TG (FW.of w) wr (w.heap.size + 1) k.s [] k.base k.last N [] none 0 An cn none 0 ∧ wr.cell? ⟨w.heap.size, 3, none⟩ = some (.slice (some ⟨ga, 0, none⟩) k.ps.length c)) (fun x _ => k.s.c - (intOf x).toNat)
    case atStart => exact ⟨0, [], none, 0, rfl, by omega, rfl, by simp, hT1, hbx⟩
    case round =>
      obtain ⟨m, N, An, cn, rfl, hm, HN, hNl, hTr, hbr⟩ := hrel
      have hlr := hTr.lt
      have hlr2 : w.heap.size < wr.heap.size := by omega
      have hfr := hTr.fz
      obtain ⟨q0, q1, q2, q3, q4, q5, q6, q7⟩ := hTr.cells
      by_cases hlt : m < k.s.c
      · have hm8 : (m : Int) % 256 = m := by omega
        have hN2 : Hid (N ++ [litNd m] = (List.range (m + 1)).map litNd) := by show _ = _; rw [List.range_succ, List.map_append, ← HN.out]; rfl
        have hN3 : (N ++ [litNd m]).length ≤ 256 := by rw [hN2.out]; simp; omega
        go_wp2_with (first | (at_builtin; refine app 103 103 Tryz.underlying103 node_info (by rfl) (by omega) rfl (.tmp 24) (.tmp 31) (by rfl) (w.heap.size + 1 + 1) _ N.length (cN N) (by rfl) (hTr.on.alloc _) _ 1 (cN [litNd m]) (by rfl) (src_nd _ _ (litNd m) (heap_alloc_new _ _)) (by omega) (by simp; omega) ?_; intro v3 w3 hown3 hgw3 hatw3; obtain ⟨An3, cn3, rfl⟩ := own_form hown3; obtain ⟨hg3, hfz3, r0, r1, r3, r4, r5, r6, r7, r8⟩ := TG.farc (hTr.up (by repeat' (first | (with_reducible exact G.refl _) | (with_reducible assumption) | (with_reducible refine G.alloc ?_ _) | (with_reducible refine G.drew ?_) | (with_reducible refine G.drewN ?_ _) | (refine G.setCell ?_ (by first | (simp <;> done) | (simp <;> omega)) _) | (with_reducible refine G.trans ?_ (by with_reducible assumption))))) hgw3 (own_above hTr.on); have hT3 := TG.app6 (hTr.up (by repeat' (first | (with_reducible exact G.refl _) | (with_reducible assumption) | (with_reducible refine G.alloc ?_ _) | (with_reducible refine G.drew ?_) | (with_reducible refine G.drewN ?_ _) | (refine G.setCell ?_ (by first | (simp <;> done) | (simp <;> omega)) _) | (with_reducible refine G.trans ?_ (by with_reducible assumption))))) (x := litNd m) hgw3 hown3 hatw3; have hb3 := (GR.cell (show GR _ w3 _ from hgw3) (g := w.heap.size) (by simp; omega) (fun e => by have := own_base hTr.on e; omega) 3); have hb4 : (w3.setCell ⟨w.heap.size + 1, 6, none⟩ (.slice An3 (N.length + 1) cn3)).cell? ⟨w.heap.size, 3, none⟩ = some (.slice (some ⟨ga, 0, none⟩) k.ps.length c) := (by rw [World.cell?_setCell_other _ _ _ _ (by simp), hb3]; go_cell)) | fail)
        go_roundw
        case rel => exact ⟨m + 1, N ++ [litNd m], An3, cn3, by go_num, by omega, hN2.out, hN3, hT3, hb4⟩
        case measure => simp [intOf]; omega
      · have hmc : m = k.s.c := by omega
        have hNL : N = M.nodesOf (kL (takeK k 0)) := by
          rw [HN.out, hmc]
          show _ = M.nodesOf (M.LL k.s.c (k.ps.take 0))
          rw [List.take_zero, nodes_lits _ hc256]
        have hT0 : TB (FW.of w) wr (w.heap.size + 1) (takeK k 0) none 0 An cn none 0 := by
          show TG (FW.of w) wr (w.heap.size + 1) k.s (k.ps.take 0) k.base k.last (M.nodesOf (kL (takeK k 0))) (M.idxs k.s.c (k.ps.take 0)) none 0 An cn none 0
          rw [← hNL, List.take_zero]; exact hTr
        clear q0 q1 q2 q3 q4 q5 q6 q7 hfr hTr hNL hNl hmc
        go_wp2
        go_loopw [39] (fun x wr2 => ∃ (m2 : Nat) (A0 : Option Addr) (c0 : Nat) (An : Option Addr) (cn : Nat) (Ai : Option Addr) (ci : Nat), x = .int .i64 m2 ∧ m2 ≤ k.ps.length ∧ TB (FW.of w) wr2 (w.heap.size + 1) (takeK k m2) A0 c0 An cn Ai ci) (fun x _ => k.ps.length - (intOf x).toNat)
        case atStart => exact ⟨0, _, _, _, _, _, _, rfl, by omega, hT0⟩
        case round =>
          obtain ⟨m2, A0, c0, An2, cn2, Ai, ci, rfl, hm2, hT2⟩ := hrel
          have hl2 := hT2.lt
          have HT2 := Lib.hid hT2
          by_cases hlt2 : m2 < k.ps.length
          · obtain ⟨ga', hga', hga, hcell⟩ := (HR.out.g hT2.fr).at_ (by omega)
            obtain rfl : ga = ga' := by injection hga' with e; injection e
            obtain ⟨d0, d1⟩ := cP_get k.ps m2 hlt2
            have e0 := hcell _ _ d0
            have e1 := hcell _ _ d1
            have HPre : Hid (M.has (takeK k m2).s.c (takeK k m2).ps.length (k.ps[m2]).1) := by
              have h9 : (takeK k m2).ps.length = m2 := by show (k.ps.take m2).length = _; rw [List.length_take]; omega
              show M.has _ _ _
              rw [h9]; exact HV.out.pv.pre m2 hlt2
            have HByt : Hid ((k.ps[m2]).2 < (takeK k m2).s.c) := HV.out.pv.byt m2 hlt2
            have HNx : Hid ((takeK k m2).nxt ≤ (takeK k m2).s.l) := by
              have h9 : (takeK k m2).ps.length = m2 := by show (k.ps.take m2).length = _; rw [List.length_take]; omega
              have h1 := HV.out.nxt_le
              show _ ≤ _
              unfold M.Kn.nxt at h1 ⊢
              rw [h9]; show k.s.c + 2 + m2 ≤ k.s.l; omega
            have HSu : Hid (addP (takeK k m2) ((k.ps[m2]).1, (k.ps[m2]).2) = takeK k (m2 + 1)) := takeK_succ k m2 hlt2
            generalize (k.ps[m2]).1 = p1 at *
            generalize (k.ps[m2]).2 = p2 at *
            clear d0 d1 hcell hT2
            go_wp2_with (first | (go_at_call 98; refine (v_learn_impl (takeK k m2) (TV.takeK HV.out m2) (FW.of w) _ (w.heap.size + 1) A0 c0 An2 cn2 Ai ci (HT2.out.up (by repeat' (first | (with_reducible exact G.refl _) | (with_reducible assumption) | (with_reducible refine G.alloc ?_ _) | (with_reducible refine G.drew ?_) | (with_reducible refine G.drewN ?_ _) | (refine G.setCell ?_ (by first | (simp <;> done) | (simp <;> omega)) _) | (with_reducible refine G.trans ?_ (by with_reducible assumption))))) p1 p2 HPre.out HByt.out HNx.out).mono ?_; rintro e w' ⟨rfl, A0', c0', An', cn', Ai', ci', hTL⟩; rw [HSu.out] at hTL) | fail)
            go_wp2
            go_roundw
            case rel => exact ⟨m2 + 1, A0', c0', An', cn', Ai', ci', by go_num, by omega, hTL⟩
            case measure => simp [intOf]; omega
          · go_wp2
            go_ret
            have h9 : takeK k m2 = k := by rw [show m2 = k.ps.length by omega]; exact takeK_all k
            rw [h9] at hT2
            exact ⟨rfl, A0, c0, An2, cn2, Ai, ci, hT2⟩
end
end Go.Proofs.YtlaijbkonapdbaaGreat

namespace Go.Proofs.YtlaijbkonapdbaaGreat
open Go.RowKit
attribute [local go_sem] grow_cell grow_frozen conv_one

section
variable (k : M.Kn) (hk : k.V) (w : FW) (W : World) (g : Nat) (A0 : Option Addr) (c0 : Nat) (An : Option Addr) (cn : Nat) (Ai : Option Addr) (ci : Nat) (hT : TB w W g k A0 c0 An cn Ai ci)
include hk hT
theorem v_follow_code (code : Nat) (hfo : k.follows code) : Calls Tryz.prog 82 #[.pointer (some ⟨g, 0, none⟩), .int .i64 code] W fun e W' => e = .returned (.tuple #[]) ∧ ∃ A0 c0 An cn Ai ci, TB w W' g (k.after code) A0 c0 An cn Ai ci := by
  have hcc : code ≠ k.s.c := by unfold M.Kn.follows at hfo; omega
  have hcl : code ≤ 4000 := by
    have h1 := hk.greatest_le; have := hk.s.l1024; have := hk.s.c256
    unfold M.Kn.follows at hfo; omega
  cases hgr : k.grows with
  | false => exact v_follow_stay k hk w W g A0 c0 An cn Ai ci hT code hcc hcl hgr
  | true => exact v_follow_grow k hk w W g A0 c0 An cn Ai ci hT code hcc hcl hgr hfo
end
section
variable (k : M.Kn) (hps : k.ps.length ≤ 2000) (A : Option Addr) (c : Nat) (w : World) (hr : Rds w 2 A k.ps.length (cP k.ps)) (hA : ∀ a, A = some a → a.block < w.heap.size)
include hps hr hA
set_option maxHeartbeats 1000000 in
theorem v_copyKnown : Calls Tryz.prog 85 #[knV k A c] w fun e w' => GivesK k w e w' := by
  have HR := Lib.hid hr
  clear hr
  go_enter Tryz.func85, Tryz.ntmps85
  go_wp2_with (first | (at_builtin; refine app 38 38 Tryz.underlying38 pair_info (by rfl) (by omega) rfl (.const (.slice none 0 0)) (.tmp 4) (by rfl) (w.heap.size + 2) _ 0 [] (by rfl) (World.ownsRow_nil _ _ _ _) _ k.ps.length (cP k.ps) (by rfl) (Src.ofRds Tryz.underlying38 (HR.out.g (by repeat' (first | (with_reducible exact G.refl _) | (with_reducible assumption) | (with_reducible refine G.alloc ?_ _) | (with_reducible refine G.drew ?_) | (with_reducible refine G.drewN ?_ _) | (refine G.setCell ?_ (by first | (simp <;> done) | (simp <;> omega)) _) | (with_reducible refine G.trans ?_ (by with_reducible assumption))))) (cP_one _)) (by omega) (by simp) ?_; intro v1 w1 hown1 hgw1 hatw1; rw [Nat.zero_add, List.nil_append] at hown1; obtain ⟨A1, c1, rfl⟩ := own_form hown1; have hG1 := G.grown (a := w) ((by repeat' (first | (with_reducible exact G.refl _) | (with_reducible assumption) | (with_reducible refine G.alloc ?_ _) | (with_reducible refine G.drew ?_) | (with_reducible refine G.drewN ?_ _) | (refine G.setCell ?_ (by first | (simp <;> done) | (simp <;> omega)) _) | (with_reducible refine G.trans ?_ (by with_reducible assumption))))) hgw1 (fun g h => by simp [Value.ownBlock] at h); have hb := fun o => (GR.cell (show GR _ w1 _ from hgw1) (g := w.heap.size) (by simp <;> omega) (by simp [Value.ownBlock]) o); have hb1 := fun o => (GR.cell (show GR _ w1 _ from hgw1) (g := w.heap.size + 1) (by simp <;> omega) (by simp [Value.ownBlock]) o); have hf := fun o => (GR.frozen (show GR _ w1 _ from hgw1) (g := w.heap.size) (by simp <;> omega) (by simp [Value.ownBlock]) o); have hf1 := fun o => (GR.frozen (show GR _ w1 _ from hgw1) (g := w.heap.size + 1) (by simp <;> omega) (by simp [Value.ownBlock]) o)) | fail)
  refine bodyPost_ret (results_cells rfl _ _ (w.heap.size + 1) [.int .i64 k.s.ord, .int .i64 k.s.lit, .int .i64 k.s.most, .slice A1 (k.ps.length) c1, .int .i64 k.base, .int .i64 k.last] _ rfl (cells6 (by go_cell) (by go_cell) (by go_cell) (by go_cell) (by go_cell) (by go_cell)) Tryz.underlying40 rfl (by kernel_rfl)) rfl ?_
  refine ⟨⟨A1, c1, rfl, ?_⟩, (by repeat' (first | (with_reducible exact G.refl _) | (with_reducible assumption) | (with_reducible refine G.alloc ?_ _) | (with_reducible refine G.drew ?_) | (with_reducible refine G.drewN ?_ _) | (refine G.setCell ?_ (by first | (simp <;> done) | (simp <;> omega)) _) | (with_reducible refine G.trans ?_ (by with_reducible assumption))))⟩
  refine own_mono (base := w.heap.size + 2) ?_ (by omega)
  repeat' (first | with_reducible exact hown1 | with_reducible refine ownsRow_setCell_below ?_ (by simp) _)
end
end Go.Proofs.YtlaijbkonapdbaaGreat

namespace Go.Proofs.YtlaijbkonapdbaaGreat
open Go.RowKit
attribute [local go_sem] grow_cell grow_frozen conv_one
section
variable (k : M.Kn) (hk : k.V) (A : Option Addr) (c : Nat) (w : World) (hr : Rds w 2 A k.ps.length (cP k.ps)) (hA : ∀ a, A = some a → a.block < w.heap.size)
include hk hr hA
set_option maxRecDepth 8000 in
set_option maxHeartbeats 4000000 in
theorem v_learnF (d : M.Bytes) (hd : M.Kn.fits k.s.c d) (b : ByteArray) (hbl : b.size ≤ 2000) (hb : bs b = d) :
    Calls Tryz.prog 64 #[knV k A c, .string b] w fun e w' => (∃ A' c' n, e = .returned (.tuple #[knV (M.Kn.learnK k d) A' c', .int .i64 n]) ∧ w'.ownsRow w.heap.size 98 2 (.slice A' (M.Kn.learnK k d).ps.length c') (M.Kn.learnK k d).ps.length (cP (M.Kn.learnK k d).ps)) ∧ G w w' := by
  have hs := hk.s
  have HB := Lib.hid hb
  have HD := Lib.hid hd
  have HR := Lib.hid hr
  have HA := Lib.hid hA
  have HV := Lib.hid hk
  clear hb hd hr hA
  go_enter Tryz.func64, Tryz.ntmps64
  go_upto_region 1 with fail
  refine wp_gen (fun w1 => G w w1 ∧ w.heap.size + 2 ≤ w1.heap.size ∧ (w1.cell? ⟨w.heap.size, 0, none⟩ = some (.int .i64 k.s.ord) ∧ w1.cell? ⟨w.heap.size, 1, none⟩ = some (.int .i64 k.s.lit) ∧ w1.cell? ⟨w.heap.size, 2, none⟩ = some (.int .i64 k.s.most) ∧ w1.cell? ⟨w.heap.size, 3, none⟩ = some (.slice A k.ps.length c) ∧ w1.cell? ⟨w.heap.size, 4, none⟩ = some (.int .i64 k.base) ∧ w1.cell? ⟨w.heap.size, 5, none⟩ = some (.int .i64 k.last)) ∧ w1.heap[w.heap.size + 1]? = some (.cells #[.int .i64 0, .int .i64 0, .int .i64 0, .slice none 0 0, .int .i64 0, .int .i64 0] 40 (0, 0))) ⟨(by repeat' (first | (with_reducible exact G.refl _) | (with_reducible assumption) | (with_reducible refine G.alloc ?_ _) | (with_reducible refine G.drew ?_) | (with_reducible refine G.drewN ?_ _) | (refine G.setCell ?_ (by first | (simp <;> done) | (simp <;> omega)) _) | (with_reducible refine G.trans ?_ (by with_reducible assumption)))), by simp, ⟨by go_cell, by go_cell, by go_cell, by go_cell, by go_cell, by go_cell⟩, alloc_at _ _ _ (by simp)⟩ ?_
  rintro w1 ⟨hG1, hsz, ⟨b0, b1, b2, b3, b4, b5⟩, r0⟩
  have hz1 : w.heap.size < w1.heap.size := by omega
  have HR0 := Lib.hid r0
  clear r0
  go_wp2_with (first | (go_at_call 81; refine (v_newTree k hk A c w1 (HR.out.g hG1) (fun a ha => by have := HA.out a ha; omega)).mono ?_; rintro e w' ⟨rfl, A0, c0, An, cn, Ai, ci, hT⟩; have hl := hT.lt; have hGt := hT.fr; obtain ⟨hct, hft⟩ := gcell hGt) | (go_at_call 80; refine (v_ClearCode k.s hs _).mono ?_; rintro e w' ⟨rfl, h1⟩; obtain ⟨hch1, hfh1⟩ := gcell h1; have hs1 := h1.size; have hT1 := hT.up h1) | (go_at_call 82; refine (v_follow_clear k hk (FW.of w1) _ (w1.heap.size + 1) A0 c0 An cn Ai ci hT1).mono ?_; rintro e w' ⟨rfl, A2, c2, An2, cn2, Ai2, ci2, hT2⟩) | fail)
  have HLr : Hid (w.heap.size + 2 ≤ w1.heap.size) := hsz
  obtain ⟨gt, hgt⟩ : ∃ gt, gt = w1.heap.size + 1 := ⟨_, rfl⟩
  rw [← hgt] at hT2
  rw [← hgt]
  clear hT hT1 hch1 hfh1 hct hft b0 b1 b2 b3 b4 b5 h1 hGt hl hgt
  rename_i wx1 wx2 wx3
  go_loopw [7, 8] (fun x y wr => ∃ (kk : M.Kn) (at' nd : Nat) (A0 : Option Addr) (c0 : Nat) (An : Option Addr) (cn : Nat) (Ai : Option Addr) (ci : Nat), x = .int .i64 nd ∧ y = .int .i64 at' ∧ at' ≤ b.size ∧ nd ≤ 3000 ∧ Hid (kk.V) ∧ Hid (kk.s = k.s) ∧ Hid (M.Kn.lrn k.cleared d = M.Kn.lrn kk (d.drop at')) ∧ TB (FW.of w1) wr gt kk A0 c0 An cn Ai ci) (fun _ y _ => b.size - (intOf y).toNat)
  case atStart => exact ⟨k.cleared, 0, 0, _, _, _, _, _, _, rfl, rfl, by omega, by omega, hk.cleared, rfl, rfl, hT2⟩
  case round =>
    obtain ⟨kk, at', nd, A0', c0', An', cn', Ai', ci', rfl, rfl, hat, hnd, HKV, HKS, HLR, hTr⟩ := hrel
    have hlr := hTr.lt
    obtain ⟨q0, q1, q2, q3, q4, q5, q6, q7⟩ := hTr.cells
    by_cases hlt : at' < b.size
    · obtain ⟨dd, hdd0⟩ : ∃ dd, d.drop at' = dd := ⟨_, rfl⟩
      have hbl2 : b.size = d.length := by rw [bs_size, HB.out]
      have hdd : dd ≠ [] := by
        intro h
        have : (d.drop at').length = 0 := by rw [hdd0, h]; rfl
        rw [List.length_drop] at this; omega
      obtain ⟨bd, hbd⟩ : ∃ x, b.extract at' b.size = x := ⟨_, rfl⟩
      have hbsd : bs bd = dd := by rw [← hbd, bs_extract, HB.out, hdd0]; apply List.take_of_length_le; rw [← hdd0, List.length_drop]; omega
      have hbdz : bd.size ≤ 2000 := by rw [← hbd, ByteArray.size_extract]; omega
      have hfit : M.Kn.fits kk.s.c dd := by rw [HKS.out, ← hdd0]; exact HD.out.drop _
      have HF := M.Kn.longF_spec HKV.out hdd (hfit.head hdd)
      have HFH : Hid ((dd.headD 0).toNat < kk.s.c) := hfit.head hdd
      have hcut := M.Kn.cut_eq HKV.out hdd hfit
      have hlrn := M.Kn.lrn_cons kk dd hdd
      rw [hcut, ← hdd0, List.drop_drop, hdd0] at hlrn
      have HNX : Hid (M.Kn.lrn k.cleared d = M.Kn.lrn (kk.after (kk.longF dd)) (d.drop (at' + (kk.longW dd).length))) := by show _ = _; rw [HLR.out, hdd0, hlrn]
      have hwl1 : 1 ≤ (kk.longW dd).length := HF.2.2.2.1
      have hwl2 : at' + (kk.longW dd).length ≤ b.size := by
        have h9 := HF.2.2.2.2.1
        rw [← hdd0, List.length_drop] at h9
        rw [hdd0] at h9
        omega
      obtain ⟨wl, hwl⟩ : ∃ wl, (kk.longW dd).length = wl := ⟨_, rfl⟩
      rw [hwl] at hwl1 hwl2 HNX
      have HWL := Lib.hid hwl
      have HFF := Lib.hid HF
      have HDD := Lib.hid hdd
      have HBD := Lib.hid hbsd
      clear hdd0 hbl2 hdd hbsd hfit HF hcut hlrn hwl
      cases hgb : kk.grows with
      | false =>
        have HGB := Lib.hid hgb
        clear hgb
        go_wp2_with (first | (go_at_call 83; refine (v_grows kk HKV.out A0' c0' _ false HGB.out).mono ?_; rintro e w' ⟨rfl, h1⟩; obtain ⟨hch1, hfh1⟩ := gcell h1; have hTa := hTr.up (W2 := w') (by repeat' (first | (with_reducible exact G.refl _) | (with_reducible assumption) | (with_reducible refine G.alloc ?_ _) | (with_reducible refine G.drew ?_) | (with_reducible refine G.drewN ?_ _) | (refine G.setCell ?_ (by first | (simp <;> done) | (simp <;> omega)) _) | (with_reducible refine G.trans ?_ (by with_reducible assumption)))); have hla := hTa.lt) | (go_at_call 84; refine (v_longest kk HKV.out (FW.of w1) _ gt A0' c0' An' cn' Ai' ci' hTa dd HDD.out HFH.out bd HBD.out hbdz).mono ?_; rintro e w' ⟨rfl, h2⟩; rw [HWL.out]; have hTb := hTa.up h2; obtain ⟨hch2, hfh2⟩ := gcell h2) | (go_at_call 82; refine (v_follow_code kk HKV.out (FW.of w1) _ gt A0' c0' An' cn' Ai' ci' hTb (kk.longF dd) HFF.out.2.1).mono ?_; rintro e w' ⟨rfl, A2', c2', An2', cn2', Ai2', ci2', hTc⟩) | fail)
        go_roundw
        case rel => exact ⟨kk.after (kk.longF dd), at' + wl, nd, A2', c2', An2', cn2', Ai2', ci2', by go_num, by go_num, by omega, by omega, HKV.out.after HFF.out.2.1, HKS.out, HNX.out, hTc⟩
        case measure => simp [intOf]; omega
      | true =>
        have HGB := Lib.hid hgb
        clear hgb
        go_wp2_with (first | (go_at_call 83; refine (v_grows kk HKV.out A0' c0' _ true HGB.out).mono ?_; rintro e w' ⟨rfl, h1⟩; obtain ⟨hch1, hfh1⟩ := gcell h1; have hTa := hTr.up (W2 := w') (by repeat' (first | (with_reducible exact G.refl _) | (with_reducible assumption) | (with_reducible refine G.alloc ?_ _) | (with_reducible refine G.drew ?_) | (with_reducible refine G.drewN ?_ _) | (refine G.setCell ?_ (by first | (simp <;> done) | (simp <;> omega)) _) | (with_reducible refine G.trans ?_ (by with_reducible assumption)))); have hla := hTa.lt) | (go_at_call 84; refine (v_longest kk HKV.out (FW.of w1) _ gt A0' c0' An' cn' Ai' ci' hTa dd HDD.out HFH.out bd HBD.out hbdz).mono ?_; rintro e w' ⟨rfl, h2⟩; rw [HWL.out]; have hTb := hTa.up h2; obtain ⟨hch2, hfh2⟩ := gcell h2) | (go_at_call 82; refine (v_follow_code kk HKV.out (FW.of w1) _ gt A0' c0' An' cn' Ai' ci' hTb (kk.longF dd) HFF.out.2.1).mono ?_; rintro e w' ⟨rfl, A2', c2', An2', cn2', Ai2', ci2', hTc⟩) | fail)
        go_roundw
        case rel => exact ⟨kk.after (kk.longF dd), at' + wl, at' + 1, A2', c2', An2', cn2', Ai2', ci2', by go_num, by go_num, by omega, by omega, HKV.out.after HFF.out.2.1, HKS.out, HNX.out, hTc⟩
        case measure => simp [intOf]; omega
    · have hdn : d.drop at' = [] := by apply List.drop_of_length_le; rw [← HB.out, ← bs_size]; omega
      have HL : Hid (M.Kn.lrn k.cleared d = kk) := by show _ = _; rw [HLR.out, hdn, M.Kn.lrn_nil]
      have hps2 : kk.ps.length ≤ 2000 := by have h1 := HKV.out.nxt_le; have := HKV.out.s.l1024; unfold M.Kn.nxt at h1; omega
      have HLz := HLr.out
      clear hdn
      have hGk : G w1 wr := hTr.fr
      have HRk := Lib.hid (Rds.own hTr.op)
      have HAk : Hid (∀ a, A0' = some a → a.block < wr.heap.size) := fun a ha => own_lt hTr.op (ob_slice.2 ⟨a, ha, rfl⟩)
      clear hTr HLR
      go_upto_region 14 with (first | (go_at_call 85; refine (v_copyKnown kk hps2 A0' c0' _ (HRk.out.g (by repeat' (first | (with_reducible exact G.refl _) | (with_reducible assumption) | (with_reducible refine G.alloc ?_ _) | (with_reducible refine G.drew ?_) | (with_reducible refine G.drewN ?_ _) | (refine G.setCell ?_ (by first | (simp <;> done) | (simp <;> omega)) _) | (with_reducible refine G.trans ?_ (by with_reducible assumption))))) (fun a ha => by have := HAk.out a ha; (try simp); omega)).mono ?_; rintro e w' ⟨⟨A3, c3, rfl, hR3⟩, h3⟩) | fail)
      rename World => w9
      have hrb : Hid (w9.heap[w.heap.size + 1]? = some (.cells #[.int .i64 0, .int .i64 0, .int .i64 0, .slice none 0 0, .int .i64 0, .int .i64 0] 40 (0, 0))) := ((hGk.trans (show G wr w9 from (by repeat' (first | (with_reducible exact G.refl _) | (with_reducible assumption) | (with_reducible refine G.alloc ?_ _) | (with_reducible refine G.drew ?_) | (with_reducible refine G.drewN ?_ _) | (refine G.setCell ?_ (by first | (simp <;> done) | (simp <;> omega)) _) | (with_reducible refine G.trans ?_ (by with_reducible assumption)))))).heap (k := w.heap.size + 1) (by omega)).trans HR0.out
      have hG9 : G wr w9 := (by repeat' (first | (with_reducible exact G.refl _) | (with_reducible assumption) | (with_reducible refine G.alloc ?_ _) | (with_reducible refine G.drew ?_) | (with_reducible refine G.drewN ?_ _) | (refine G.setCell ?_ (by first | (simp <;> done) | (simp <;> omega)) _) | (with_reducible refine G.trans ?_ (by with_reducible assumption))))
      have hw9 := hG9.size
      have hwr := hGk.size
      have hR9 := own_mono (base' := w.heap.size + 2) hR3 (by (try simp); omega)
      obtain ⟨u, hu⟩ : ∃ u, u = w9.heap.size := ⟨_, rfl⟩
      refine wp_gen (fun W3 => G w W3 ∧ (W3.cell? ⟨u, 0, none⟩ = some (.int .i64 kk.s.ord) ∧ W3.cell? ⟨u, 1, none⟩ = some (.int .i64 kk.s.lit) ∧ W3.cell? ⟨u, 2, none⟩ = some (.int .i64 kk.s.most) ∧ W3.cell? ⟨u, 3, none⟩ = some (.slice A3 kk.ps.length c3) ∧ W3.cell? ⟨u, 4, none⟩ = some (.int .i64 kk.ps.length) ∧ W3.cell? ⟨u, 5, none⟩ = some (.int .i64 (-1))) ∧ (W3.heap[w.heap.size + 1]? = some (.cells #[.int .i64 0, .int .i64 0, .int .i64 0, .slice none 0 0, .int .i64 0, .int .i64 0] 40 (0, 0))) ∧ W3.ownsRow (w.heap.size + 2) 98 2 (.slice A3 kk.ps.length c3) kk.ps.length (cP kk.ps) ∧ u < W3.heap.size ∧ w.heap.size + 1 < u) ?_ ?_
      · subst hu
        exact ⟨hG1.trans (hGk.trans (hG9.trans ((G.refl _).alloc _))), ⟨by go_cell, by go_cell, by go_cell, by go_cell, by go_cell, by go_cell⟩, (((G.refl w9).alloc _).heap (by omega)).trans hrb.out, own_g hR9 ((G.refl _).alloc _), by simp, by omega⟩
      rintro W3 ⟨hGw, ⟨u0, u1, u2, u3, u4, u5⟩, hrw, hown, hul, huu⟩
      rw [← hu]
      have hrf : ∀ o, W3.frozen? ⟨w.heap.size + 1, o, none⟩ = false := fun o => frozen_of_row W3 _ o _ _ hrw
      have rc0 : W3.cell? ⟨w.heap.size + 1, 0, none⟩ = some (.int .i64 0) := by rw [cell_of_row W3 _ 0 _ _ _ hrw]; rfl
      have rc1 : W3.cell? ⟨w.heap.size + 1, 1, none⟩ = some (.int .i64 0) := by rw [cell_of_row W3 _ 1 _ _ _ hrw]; rfl
      have rc2 : W3.cell? ⟨w.heap.size + 1, 2, none⟩ = some (.int .i64 0) := by rw [cell_of_row W3 _ 2 _ _ _ hrw]; rfl
      have rc3 : W3.cell? ⟨w.heap.size + 1, 3, none⟩ = some (.slice none 0 0) := by rw [cell_of_row W3 _ 3 _ _ _ hrw]; rfl
      have rc4 : W3.cell? ⟨w.heap.size + 1, 4, none⟩ = some (.int .i64 0) := by rw [cell_of_row W3 _ 4 _ _ _ hrw]; rfl
      have rc5 : W3.cell? ⟨w.heap.size + 1, 5, none⟩ = some (.int .i64 0) := by rw [cell_of_row W3 _ 5 _ _ _ hrw]; rfl
      have hrl : w.heap.size + 1 < W3.heap.size := by omega
      have hrune : u ≠ w.heap.size + 1 := by omega
      clear hrw hrb hR3 hR9 hu hG9 h3 HR0 hGk hG1 hw9 hwr hz1 hsz HLz
      go_wp2
      refine bodyPost_ret (results_cell_tmp1 rfl _ _ (w.heap.size + 1) [.int .i64 kk.s.ord, .int .i64 kk.s.lit, .int .i64 kk.s.most, .slice A3 (kk.ps.length) c3, .int .i64 kk.ps.length, .int .i64 (-1)] _ rfl (cells6 (by go_cell) (by go_cell) (by go_cell) (by go_cell) (by go_cell) (by go_cell)) Tryz.underlying40 rfl (by kernel_rfl)) rfl ?_
      have e : M.Kn.learnK k d = { kk with base := kk.ps.length, last := -1 } := by unfold M.Kn.learnK; rw [HL.out]
      rw [e]
      refine ⟨⟨A3, c3, nd, rfl, ?_⟩, (by repeat' (first | (with_reducible exact G.refl _) | (with_reducible assumption) | (with_reducible refine G.alloc ?_ _) | (with_reducible refine G.drew ?_) | (with_reducible refine G.drewN ?_ _) | (refine G.setCell ?_ (by first | (simp <;> done) | (simp <;> omega)) _) | (with_reducible refine G.trans ?_ (by with_reducible assumption))))⟩
      exact own_mono (own_set6 hown (fun e => by have := own_base hown e; omega)) (by omega)
end
end Go.Proofs.YtlaijbkonapdbaaGreat

namespace Go.Proofs.YtlaijbkonapdbaaGreat
open Go.RowKit
attribute [local go_sem] grow_cell grow_frozen conv_one
section
variable (k : M.Kn) (hk : k.V) (A : Option Addr) (c : Nat) (w : World) (hr : Rds w 2 A k.ps.length (cP k.ps)) (hA : ∀ a, A = some a → a.block < w.heap.size)
include hk hr hA
set_option maxRecDepth 8000 in
set_option maxHeartbeats 1000000 in
theorem v_LearnKnown_impl (d : M.Bytes) (b : ByteArray) (hb : bs b = d) (hz : b.size ≤ 100000000) (hd : b.size ≤ 2000 ∧ M.Kn.fits k.s.c d) :
    Calls Tryz.prog 44 #[knV k A c, .string b] w fun e w' => (∃ A' c', e = .returned (.tuple #[knV (M.Kn.learnK k d) A' c', .bool true]) ∧ w'.ownsRow w.heap.size 98 2 (.slice A' (M.Kn.learnK k d).ps.length c') (M.Kn.learnK k d).ps.length (cP (M.Kn.learnK k d).ps)) ∧ G w w' := by
  have HB := Lib.hid hb
  have HA := Lib.hid hA
  have HR := Lib.hid hr
  have HR2 : Hid (decide (b.size ≤ 2000 ∧ M.Kn.fits k.s.c d) = true) := by show _ = _; simp only [decide_eq_true_eq]; exact hd
  have HD := Lib.hid hd
  obtain ⟨k2, hk2⟩ : ∃ k2, M.Kn.learnK k d = k2 := ⟨_, rfl⟩
  rw [hk2]
  have HK := Lib.hid hk2
  clear hb hA hr hd hk2
  go_enter Tryz.func44, Tryz.ntmps44
  go_upto_region 4 with (first | (go_at_call 62; refine (v_KnownValid_impl k hk A c _ (HR.out.g (by repeat' (first | (with_reducible exact G.refl _) | (with_reducible assumption) | (with_reducible refine G.alloc ?_ _) | (with_reducible refine G.drew ?_) | (with_reducible refine G.drewN ?_ _) | (refine G.setCell ?_ (by first | (simp <;> done) | (simp <;> omega)) _) | (with_reducible refine G.trans ?_ (by with_reducible assumption)))))).mono ?_; rintro e w' ⟨rfl, h1⟩; obtain ⟨hch1, hfh1⟩ := gcell h1; try (have hzh1 : w.heap.size < w'.heap.size := by have := h1.size; (try simp at this); omega); try (have hyh1 : w.heap.size + 1 < w'.heap.size := by have := h1.size; (try simp at this); omega)) | (go_at_call 63; refine (v_DataFits_impl k.s hk.s d b HB.out hz true _ HR2.out).mono ?_; rintro e w' ⟨rfl, h2⟩; obtain ⟨hch2, hfh2⟩ := gcell h2; try (have hzh2 : w.heap.size < w'.heap.size := by have := h2.size; (try simp at this); omega); try (have hyh2 : w.heap.size + 1 < w'.heap.size := by have := h2.size; (try simp at this); omega)) | (go_at_call 64; refine (v_learnF k hk A c _ (HR.out.g (by repeat' (first | (with_reducible exact G.refl _) | (with_reducible assumption) | (with_reducible refine G.alloc ?_ _) | (with_reducible refine G.drew ?_) | (with_reducible refine G.drewN ?_ _) | (refine G.setCell ?_ (by first | (simp <;> done) | (simp <;> omega)) _) | (with_reducible refine G.trans ?_ (by with_reducible assumption))))) (fun a ha => by have := HA.out a ha; have := h1.size; have := h2.size; simp at *; omega) d HD.out.2 b HD.out.1 HB.out).mono ?_; rintro e w' ⟨⟨A1, c1, n1, rfl, hR1⟩, h3⟩; rw [HK.out] at hR1 ⊢; obtain ⟨hch3, hfh3⟩ := gcell h3) | fail)
  rename World => w9
  have hs1 := h1.size
  have hs2 := h2.size
  have hs3 := h3.size
  simp only [World.size_alloc, World.size_drew] at hs1 hs2 hs3
  have hrb := ((h1.trans (h2.trans h3)).heap (k := w.heap.size + 1) (by simp)).trans (alloc_at _ _ _ (by simp))
  have hR9 := own_mono (base' := w.heap.size + 2) hR1 (by omega)
  have hGw9 : G w w9 := (by repeat' (first | (with_reducible exact G.refl _) | (with_reducible assumption) | (with_reducible refine G.alloc ?_ _) | (with_reducible refine G.drew ?_) | (with_reducible refine G.drewN ?_ _) | (refine G.setCell ?_ (by first | (simp <;> done) | (simp <;> omega)) _) | (with_reducible refine G.trans ?_ (by with_reducible assumption))))
  obtain ⟨u, hu⟩ : ∃ u, u = w9.heap.size := ⟨_, rfl⟩
  refine wp_gen (fun W3 => G w W3 ∧ (W3.cell? ⟨u, 0, none⟩ = some (.int .i64 k2.s.ord) ∧ W3.cell? ⟨u, 1, none⟩ = some (.int .i64 k2.s.lit) ∧ W3.cell? ⟨u, 2, none⟩ = some (.int .i64 k2.s.most) ∧ W3.cell? ⟨u, 3, none⟩ = some (.slice A1 k2.ps.length c1) ∧ W3.cell? ⟨u, 4, none⟩ = some (.int .i64 k2.base) ∧ W3.cell? ⟨u, 5, none⟩ = some (.int .i64 k2.last)) ∧ (W3.heap[w.heap.size + 1]? = some (.cells #[.int .i64 0, .int .i64 0, .int .i64 0, .slice none 0 0, .int .i64 0, .int .i64 0] 40 (0, 0))) ∧ W3.ownsRow (w.heap.size + 2) 98 2 (.slice A1 k2.ps.length c1) k2.ps.length (cP k2.ps) ∧ u < W3.heap.size ∧ w.heap.size + 1 < u) ?_ ?_
  · subst hu
    exact ⟨hGw9.trans ((G.refl _).alloc _), ⟨by go_cell, by go_cell, by go_cell, by go_cell, by go_cell, by go_cell⟩, (((G.refl w9).alloc _).heap (by omega)).trans hrb, own_g hR9 ((G.refl _).alloc _), by simp, by omega⟩
  rintro W3 ⟨hGw, ⟨u0, u1, u2, u3, u4, u5⟩, hrw, hown, hul, huu⟩
  rw [← hu]
  have hrf : ∀ o, W3.frozen? ⟨w.heap.size + 1, o, none⟩ = false := fun o => frozen_of_row W3 _ o _ _ hrw
  have rc0 : W3.cell? ⟨w.heap.size + 1, 0, none⟩ = some (.int .i64 0) := by rw [cell_of_row W3 _ 0 _ _ _ hrw]; rfl
  have rc1 : W3.cell? ⟨w.heap.size + 1, 1, none⟩ = some (.int .i64 0) := by rw [cell_of_row W3 _ 1 _ _ _ hrw]; rfl
  have rc2 : W3.cell? ⟨w.heap.size + 1, 2, none⟩ = some (.int .i64 0) := by rw [cell_of_row W3 _ 2 _ _ _ hrw]; rfl
  have rc3 : W3.cell? ⟨w.heap.size + 1, 3, none⟩ = some (.slice none 0 0) := by rw [cell_of_row W3 _ 3 _ _ _ hrw]; rfl
  have rc4 : W3.cell? ⟨w.heap.size + 1, 4, none⟩ = some (.int .i64 0) := by rw [cell_of_row W3 _ 4 _ _ _ hrw]; rfl
  have rc5 : W3.cell? ⟨w.heap.size + 1, 5, none⟩ = some (.int .i64 0) := by rw [cell_of_row W3 _ 5 _ _ _ hrw]; rfl
  have hrl : w.heap.size + 1 < W3.heap.size := by omega
  have hrune : u ≠ w.heap.size + 1 := by omega
  clear hrw hrb hR1 hR9 hu h1 h2 h3 hs1 hs2 hs3 hGw9
  go_wp2
  refine bodyPost_ret (results_cell_tmp1 rfl _ _ (w.heap.size + 1) [.int .i64 k2.s.ord, .int .i64 k2.s.lit, .int .i64 k2.s.most, .slice A1 (k2.ps.length) c1, .int .i64 k2.base, .int .i64 k2.last] _ rfl (cells6 (by go_cell) (by go_cell) (by go_cell) (by go_cell) (by go_cell) (by go_cell)) Tryz.underlying40 rfl (by kernel_rfl)) rfl ?_
  exact ⟨⟨A1, c1, rfl, own_mono (own_set6 hown (fun e => by have := own_base hown e; omega)) (by omega)⟩, (by repeat' (first | (with_reducible exact G.refl _) | (with_reducible assumption) | (with_reducible refine G.alloc ?_ _) | (with_reducible refine G.drew ?_) | (with_reducible refine G.drewN ?_ _) | (refine G.setCell ?_ (by first | (simp <;> done) | (simp <;> omega)) _) | (with_reducible refine G.trans ?_ (by with_reducible assumption))))⟩
end
end Go.Proofs.YtlaijbkonapdbaaGreat
