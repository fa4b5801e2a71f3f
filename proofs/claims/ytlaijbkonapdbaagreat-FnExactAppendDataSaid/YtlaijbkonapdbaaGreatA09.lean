/-
  FnExactAppendDataSaid is proved: for every input FnExactAppendData returns true, and each argument reads afterwards as it read before; no conditions. Part 9 of 25.
-/
import Derived.Test.YtlaijbkonapdbaaGreatA08

set_option linter.all false

namespace Go.Proofs.YtlaijbkonapdbaaGreat
open Go.RowKit
attribute [local go_sem] grow_cell grow_frozen conv_one

theorem results_cell_tmp3 {P : Program} {fn : Func} {p t1 t2 t3 : Tmp} {ty : TypeId} (h : fn.results = #[.cell p ty, .tmp t1, .tmp t2, .tmp t3]) (tmps : Array Value) (w : World) (g : Nat) (cs : List Value) (d : TypeDesc)
    (hp : tmps.getD p undef = .pointer (some ⟨g, 0, none⟩)) (hc : ∀ j v, cs[j]? = some v → w.cell? ⟨g, j, none⟩ = some v)
    (hu : P.underlying ty = some d) (hd : (match d with | .struct _ | .array _ _ => true | _ => false) = true) (hi : (P.info? ty).map (·.size) = some cs.length) :
    (results fn tmps).run P w = .ok (.tuple #[.agg cs.toArray, tmps.getD t1 undef, tmps.getD t2 undef, tmps.getD t3 undef]) w := by
  have hl : (loadCells ⟨g, 0, none⟩ cs.length).run P w = .ok cs.toArray w :=
    run_loadCells_list (P := P) w ⟨g, 0, none⟩ cs (fun j v hv => by
      have hadd : (⟨g, 0, none⟩ : Addr).add j = ⟨g, j, none⟩ := by unfold Addr.add; split <;> simp_all
      rw [hadd]; exact hc j v hv)
  have hp' : tmps[p]?.getD undef = .pointer (some ⟨g, 0, none⟩) := by simpa using hp
  cases hq : P.info? ty with
  | none => simp [hq] at hi
  | some i =>
    have hs : i.size = cs.length := by simpa [hq] using hi
    have hagg : (isAgg ty).run P w = .ok true w := by
      unfold isAgg
      rw [Sem.run_bind, run_underlying hu w]
      cases d <;> simp_all
    have hlv : (loadVar ty ⟨g, 0, none⟩).run P w = .ok (.agg cs.toArray) w := by simp [loadVar, Sem.run_bind, hagg, sizeOf, typeInfo, hq, hs, hl]
    simp [results, h, hp', asAddr, hlv]

section
variable (k : M.Kn) (hk : k.V) (A : Option Addr) (c : Nat) (hc : k.ps.length ≤ c) (w : World) (hr : Rds w 2 A k.ps.length (cP k.ps)) (hA : ∀ a, A = some a → a.block < w.heap.size)
include hk hr hc hA

set_option maxRecDepth 8000 in
set_option maxHeartbeats 8000000 in
theorem v_l2Walk (cs : List Nat) (hcs : cs.length ≤ 3100) (ho : M.Kn.okW k cs) (hdt : (M.Kn.dat k cs).length ≤ 2000) (Ac : Option Addr) (cc : Nat) (hrc : Rds w 1 Ac cs.length (cI cs)) :
    Calls Tryz.prog 117 #[knV k A c, .slice Ac cs.length cc] w fun e w' => (∃ k' A' c' Aw cw, e = .returned (.tuple #[knV k' A' c', .slice Aw cs.length cw, S (M.Kn.dat k cs), .bool true]) ∧ w'.ownsRow w.heap.size 3 1 (.slice Aw cs.length cw) cs.length (cI (M.Kn.widths k cs))) ∧ G w w' := by
  have hK0 := KB.new w k A c hc hr hA
  have HRC := Lib.hid hrc
  have HA := Lib.hid hA
  have HO := Lib.hid ho
  have HDT := Lib.hid hdt
  clear ho hdt hr hA hrc
  go_enter Tryz.func117, Tryz.ntmps117
  go_wp2
  go_loopw [8, 9, 10] (fun v8 v9 x wr => ∃ (kk : M.Kn) (Ak : Option Addr) (ck i : Nat) (rest ow : List Nat) (od : M.Bytes), x = .int .i64 i ∧ i ≤ cs.length ∧ Hid (cs.drop i = rest) ∧ WS w wr kk Ak ck v8 ow v9 od ∧ Hid (kk.V) ∧ Hid (M.Kn.okW kk rest)
      ∧ Hid (M.Kn.widths k cs = ow ++ M.Kn.widths kk rest) ∧ Hid (M.Kn.dat k cs = od ++ M.Kn.dat kk rest) ∧ Hid (ow.length = i) ∧ od.length ≤ 2000) (fun _ _ x _ => cs.length - (intOf x).toNat)
  case atStart =>
    refine ⟨k, A, c, 0, cs, [], [], rfl, by omega, rfl, ⟨hK0.g (by repeat' (first | (with_reducible exact G.refl _) | (with_reducible assumption) | (with_reducible refine G.alloc ?_ _) | (with_reducible refine G.drew ?_) | (with_reducible refine G.drewN ?_ _) | (refine G.setCell ?_ (by first | (simp <;> done) | (simp <;> omega)) _) | (with_reducible refine G.trans ?_ (by with_reducible assumption)))), own_alloc2 _ _ 3 1 (w.heap.size + 2) _ (by simp) (by simp), own_alloc _ 5 1 (w.heap.size + 2) _ (by simp) (by simp), ?_, ?_, ?_, (by repeat' (first | (with_reducible exact G.refl _) | (with_reducible assumption) | (with_reducible refine G.alloc ?_ _) | (with_reducible refine G.drew ?_) | (with_reducible refine G.drewN ?_ _) | (refine G.setCell ?_ (by first | (simp <;> done) | (simp <;> omega)) _) | (with_reducible refine G.trans ?_ (by with_reducible assumption))))⟩, hk, HO.out, rfl, rfl, rfl, by simp⟩
    · intro g h1 h2; have h3 := Option.some.inj h1; have h4 := Option.some.inj h2; simp only [] at h3 h4; omega
    · intro a ha
      have h5 := HA.out a ha
      refine ⟨fun h => ?_, fun h => ?_, by omega⟩
      · have h3 := Option.some.inj h; simp only [] at h3; omega
      · have h3 := Option.some.inj h; simp only [] at h3; omega
    · rw [Below.heap_alloc _ _ _ (by simp), Below.heap_alloc _ _ _ (by simp)]; exact alloc_at _ _ _ (by simp)
  case round =>
    obtain ⟨kk, Ak, ck, i, rest, ow, od, rfl, hi, HRS, hWS, HKV, HOK, HWD, HDD, HOW, hod⟩ := hrel
    have how : ow.length ≤ 3100 := by rw [HOW.out]; omega
    have hwl := hWS.kb.lt
    by_cases hlt : i < cs.length
    · obtain ⟨code, hcode⟩ : ∃ x, cs[i]? = some x := ⟨_, List.getElem?_eq_getElem hlt⟩
      obtain ⟨cs', hcs'⟩ : ∃ x, cs.drop (i + 1) = x := ⟨_, rfl⟩
      have hrest : rest = code :: cs' := by
        rw [← HRS.out, List.drop_eq_getElem_cons hlt, ← hcs']
        rw [List.getElem?_eq_getElem hlt] at hcode; injection hcode with hcode; rw [hcode]
      subst hrest
      obtain ⟨gc, hAc, hgc, hcell⟩ := HRC.out.at_ (by omega)
      have hcv := hcell i _ (cI_get cs i code hcode)
      subst hAc
      have b1 : (0 : Int) ≤ (i : Int) := by omega
      have b2 : (i : Int) < (cs.length : Int) := by omega
      have hwd := HKV.out.width_le
      have HCV := Lib.hid hcv
      have HCS := Lib.hid hcs'
      obtain ⟨k9, k0, k1, k2, k3, k4, k5⟩ := hWS.kb.box
      clear hcell hcode hcs' hcv
      go_wp2_with (first | (go_at_call 134; refine (v_l2Width kk HKV.out Ak ck _).mono ?_; rintro e w' ⟨rfl, h1⟩; obtain ⟨hch1, hfh1⟩ := gcell h1; have hs1 := h1.size) | (at_builtin; refine app_int rfl (.tmp 19) (.tmp 22) rfl (w.heap.size + 2) _ _ _ rfl (((hWS.up h1).o8).alloc _) ⟨_, 0, none⟩ 1 1 [_] rfl rfl (cell_one_new _ _ _) (by simp [Value.oneCell']) (by omega) (by simp; omega) ?_; intro v1 w1 hownw1 hgw1 hatw1; have hW1 := ((hWS.up h1).up ((G.refl _).alloc _)).app8 hgw1 hownw1 hatw1))
      refine wp_gen (fun W => WS w W kk Ak ck v1 (ow ++ [kk.width]) u9 od) hW1 ?_
      rintro W1 hW1
      have dcode : W1.cell? ⟨gc, i, none⟩ = some (.int .i64 code) := (hW1.g.cell (p := ⟨gc, i, none⟩) hgc).trans HCV.out
      clear k9 k0 k1 k2 k3 k4 k5 hownw1 hgw1 hatw1 hWS
      obtain ⟨k9, k0, k1, k2, k3, k4, k5⟩ := hW1.kb.box
      have hgc1 : gc < W1.heap.size := Nat.lt_of_lt_of_le hgc hW1.g.size
      rcases HOK.out with ⟨he, hnil⟩ | ⟨hne, hcf, hok⟩
      · subst hnil
        have HE := Lib.hid he
        have he1 : ((code : Int) == kk.s.e) = true := by rw [he]; simp
        clear he
        refine wp_region_quiet_below (by kernel_rfl) (by kernel_rfl) ?_
        repeat (first | go_big_quiet_step ((first | (go_at_call 93; exact qcall (v_l1End kk.s HKV.out.s _)))) | quiet_step ((first | (go_at_call 93; exact qcall (v_l1End kk.s HKV.out.s _)))))
        refine wpQuiet_nil ?_
        intro w' hw'
        have h2 := G.of_regrown hw'
        clear hw'
        obtain ⟨hch2, hfh2⟩ := gcell h2
        go_wp2
        refine wp_gen (fun W => WS w W kk Ak ck v1 (ow ++ [kk.width]) u9 od) (hW1.up h2) ?_
        rintro W2 hW2
        clear dcode k9 k0 k1 k2 k3 k4 k5 hch2 hfh2 h2
        obtain ⟨k9, k0, k1, k2, k3, k4, k5⟩ := hW2.kb.box
        obtain ⟨r0, r1, r2, r3, r4, r5⟩ := hW2.rcell
        have hrf := hW2.rfz
        have HW2 := Lib.hid hW2
        obtain ⟨A9, c9, e9⟩ := own_form hW2.o9
        subst e9
        have hconv := conv_own W2 _ _ _ _ _ hW2.o9
        have hconv2 := conv_own W2.drew _ _ _ _ _ (own_g hW2.o9 (G.refl _).drew)
        have hneb : (Value.slice A9 od.length c9).ownBlock ≠ some (w.heap.size + 1) := fun e => by have := own_base hW2.o9 e; omega
        have hconv3 := conv_own _ _ _ _ _ _ (own_set6 (v0 := .int .i64 kk.s.ord) (v1 := .int .i64 kk.s.lit) (v2 := .int .i64 kk.s.most) (v3 := .slice Ak kk.ps.length ck) (v4 := .int .i64 kk.base) (v5 := .int .i64 kk.last) hW2.o9 hneb)
        have hconv4 := conv_own _ _ _ _ _ _ (own_g (own_set6 (v0 := .int .i64 kk.s.ord) (v1 := .int .i64 kk.s.lit) (v2 := .int .i64 kk.s.most) (v3 := .slice Ak kk.ps.length ck) (v4 := .int .i64 kk.base) (v5 := .int .i64 kk.last) hW2.o9 hneb) (G.refl _).drew)
        have hi1 : i + 1 = cs.length := by
          have := congrArg List.length HRS.out; simp at this; omega
        have hq : ((i : Int) == (cs.length : Int) - 1) = true := by simp; omega
        have HI1 := Lib.hid hi1
        clear hW2 hW1 hi1
        go_region
        go_wp2
        refine bodyPost_ret (results_cell_tmp3 rfl _ _ (w.heap.size + 1) [.int .i64 kk.s.ord, .int .i64 kk.s.lit, .int .i64 kk.s.most, .slice Ak kk.ps.length ck, .int .i64 kk.base, .int .i64 kk.last] _ rfl (cells6 (by go_cell) (by go_cell) (by go_cell) (by go_cell) (by go_cell) (by go_cell)) Tryz.underlying40 rfl (by kernel_rfl)) rfl ?_
        have hlen : (ow ++ [kk.width]).length = cs.length := by have := HOW.out; have := HI1.out; simp; omega
        obtain ⟨A8, c8, e8⟩ := own_form HW2.out.o8
        subst e8
        have e1 : M.Kn.widths k cs = ow ++ [kk.width] := by rw [HWD.out]; rfl
        have e2 : M.Kn.dat k cs = od := by rw [HDD.out]; simp [M.Kn.dat, HE.out]
        have hgg := HW2.out.g
        refine ⟨⟨kk, Ak, ck, A8, c8, ?_, ?_⟩, (by repeat' (first | (with_reducible exact G.refl _) | (with_reducible assumption) | (with_reducible refine G.alloc ?_ _) | (with_reducible refine G.drew ?_) | (with_reducible refine G.drewN ?_ _) | (refine G.setCell ?_ (by first | (simp <;> done) | (simp <;> omega)) _) | (with_reducible refine G.trans ?_ (by with_reducible assumption))))⟩
        · rw [e2, ← hlen]; rfl
        · rw [e1, ← hlen]
          exact own_mono (own_g (own_set6 HW2.out.o8 (fun e => by have := own_base HW2.out.o8 e; omega)) (G.refl _).drew) (by omega)
      · have he1 : ((code : Int) == kk.s.e) = false := by simp; omega
        have HCS2 := Lib.hid hok
        have hsc : gc < w.heap.size ∧ w.cell? ⟨gc, i, none⟩ = some (.int .i64 code) := ⟨hgc, HCV.out⟩
        obtain ⟨A9, c9, e9⟩ := own_form hW1.o9
        subst e9
        have HNE := Lib.hid hne
        clear hne hok
        refine wp_region_quiet_below (by kernel_rfl) (by kernel_rfl) ?_
        repeat (first | go_big_quiet_step ((first | (go_at_call 93; exact qcall (v_l1End kk.s HKV.out.s _)))) | quiet_step ((first | (go_at_call 93; exact qcall (v_l1End kk.s HKV.out.s _)))))
        refine wpQuiet_nil ?_
        intro w' hw'
        have h2 := G.of_regrown hw'
        clear hw'
        obtain ⟨hch2, hfh2⟩ := gcell h2
        go_wp2
        refine wp_gen (fun W => WS w W kk Ak ck v1 (ow ++ [kk.width]) (.slice A9 od.length c9) od) (hW1.up h2) ?_
        rintro W2 hW2
        clear dcode k9 k0 k1 k2 k3 k4 k5 hch2 hfh2 hgc1
        have dcode : W2.cell? ⟨gc, i, none⟩ = some (.int .i64 code) := (hW2.g.cell (p := ⟨gc, i, none⟩) hgc).trans HCV.out
        have hgc1 : gc < W2.heap.size := Nat.lt_of_lt_of_le hgc hW2.g.size
        obtain ⟨k9, k0, k1, k2, k3, k4, k5⟩ := hW2.kb.box
        rcases hcf with hcf | hcf
        · have he2 : ((code : Int) == kk.s.c) = true := by rw [hcf]; simp
          have HF := Lib.hid hcf
          clear hcf
          refine wp_region_quiet_below (by kernel_rfl) (by kernel_rfl) ?_
          repeat (first | go_big_quiet_step ((first | (go_at_call 71; exact qcall (v_l1Clear kk.s HKV.out.s _)))) | quiet_step ((first | (go_at_call 71; exact qcall (v_l1Clear kk.s HKV.out.s _)))))
          refine wpQuiet_nil ?_
          intro w' hw'
          have h3 := G.of_regrown hw'
          clear hw'
          obtain ⟨hch3, hfh3⟩ := gcell h3
          go_wp2
          refine wp_gen (fun W => WS w W kk Ak ck v1 (ow ++ [kk.width]) (.slice A9 od.length c9) od) (hW2.up h3) ?_
          rintro W3 hW3
          clear dcode k9 k0 k1 k2 k3 k4 k5 hch3 hfh3 hgc1
          have dcode : W3.cell? ⟨gc, i, none⟩ = some (.int .i64 code) := (hW3.g.cell (p := ⟨gc, i, none⟩) hgc).trans HCV.out
          have hgc1 : gc < W3.heap.size := Nat.lt_of_lt_of_le hgc hW3.g.size
          obtain ⟨k9, k0, k1, k2, k3, k4, k5⟩ := hW3.kb.box
          have hgW := hW3.g
          go_region_law (first | (refine step_fn ?_ 136 #[.tmp 71, .tmp 75] #[40, 3] ?_ #[knV kk Ak ck, .int .i64 code] ?_ cf_l2Step ?_; exact rfl; exact rfl; (simp only [List.map_toArray, List.map_cons, List.map_nil, Act.eval]; rfl); refine (v_l2Step kk HKV.out Ak ck hW3.kb.cap _ (hW3.kb.rd.g (by repeat' (first | (with_reducible exact G.refl _) | (with_reducible assumption) | (with_reducible refine G.alloc ?_ _) | (with_reducible refine G.drew ?_) | (with_reducible refine G.drewN ?_ _) | (refine G.setCell ?_ (by first | (simp <;> done) | (simp <;> omega)) _) | (with_reducible refine G.trans ?_ (by with_reducible assumption))))) code (Or.inl HF.out)).mono ?_; rintro e wT ⟨⟨A5, c5, rfl, hR5⟩, h11⟩; have hK11 := hW3.kb.g (w' := wT) (by repeat' (first | (with_reducible exact G.refl _) | (with_reducible assumption) | (with_reducible refine G.alloc ?_ _) | (with_reducible refine G.drew ?_) | (with_reducible refine G.drewN ?_ _) | (refine G.setCell ?_ (by first | (simp <;> done) | (simp <;> omega)) _) | (with_reducible refine G.trans ?_ (by with_reducible assumption)))); have hfz11 := hK11.fz; obtain ⟨i9, i0, i1, i2, i3, i4, i5⟩ := hK11.box; refine ⟨_, rfl, ?_⟩) | fail)
          all_goals
            go_wp2
            go_roundw
            case rel =>
              have hws := hW3.set (k2 := kk.step code) (((G.refl _).drew).trans h11) (by simp) hR5
              simp only [M.Kn.step_s, M.Kn.step_base] at hws
              refine ⟨kk.step code, A5, c5, i + 1, cs', ow ++ [kk.width], od, by go_num, by omega, HCS.out, hws, HKV.out.step (Or.inl HF.out), HCS2.out, ?_, ?_, ?_, hod⟩
              · show _ = _; rw [HWD.out]; simp [M.Kn.widths]
              · show _ = _; rw [HDD.out]; simp only [M.Kn.dat, if_neg HNE.out]; simp [M.Kn.out, HF.out]
              · show _ = _; rw [List.length_append, HOW.out]; rfl
            case measure => simp [intOf]; omega
        · have he2 : ((code : Int) == kk.s.c) = false := by have := (HKV.out.follows_ne hcf).1; simp; omega
          have HF := Lib.hid hcf
          clear hcf
          refine wp_region_quiet_below (by kernel_rfl) (by kernel_rfl) ?_
          repeat (first | go_big_quiet_step ((first | (go_at_call 71; exact qcall (v_l1Clear kk.s HKV.out.s _)))) | quiet_step ((first | (go_at_call 71; exact qcall (v_l1Clear kk.s HKV.out.s _)))))
          refine wpQuiet_nil ?_
          intro w' hw'
          have h3 := G.of_regrown hw'
          clear hw'
          obtain ⟨hch3, hfh3⟩ := gcell h3
          go_wp2
          refine wp_gen (fun W => WS w W kk Ak ck v1 (ow ++ [kk.width]) (.slice A9 od.length c9) od) (hW2.up h3) ?_
          rintro W3 hW3
          clear dcode k9 k0 k1 k2 k3 k4 k5 hch3 hfh3 hgc1
          have dcode : W3.cell? ⟨gc, i, none⟩ = some (.int .i64 code) := (hW3.g.cell (p := ⟨gc, i, none⟩) hgc).trans HCV.out
          have hgc1 : gc < W3.heap.size := Nat.lt_of_lt_of_le hgc hW3.g.size
          obtain ⟨k9, k0, k1, k2, k3, k4, k5⟩ := hW3.kb.box
          refine wp_region_quiet_below (by kernel_rfl) (by kernel_rfl) ?_
          repeat (first | go_big_quiet_step ((first | (go_at_call 135; exact qcall (v_l2Follows kk HKV.out Ak ck _ code true (decide_eq_true HF.out))))) | quiet_step ((first | (go_at_call 135; exact qcall (v_l2Follows kk HKV.out Ak ck _ code true (decide_eq_true HF.out))))))
          refine wpQuiet_nil ?_
          intro w' hw'
          have h4 := G.of_regrown hw'
          clear hw'
          obtain ⟨hch4, hfh4⟩ := gcell h4
          go_wp2
          refine wp_gen (fun W => WS w W kk Ak ck v1 (ow ++ [kk.width]) (.slice A9 od.length c9) od) (hW3.up h4) ?_
          rintro W4 hW4
          clear dcode k9 k0 k1 k2 k3 k4 k5 hch4 hfh4 hgc1
          have dcode : W4.cell? ⟨gc, i, none⟩ = some (.int .i64 code) := (hW4.g.cell (p := ⟨gc, i, none⟩) hgc).trans HCV.out
          have hgc1 : gc < W4.heap.size := Nat.lt_of_lt_of_le hgc hW4.g.size
          obtain ⟨k9, k0, k1, k2, k3, k4, k5⟩ := hW4.kb.box
          obtain ⟨b, hb⟩ : ∃ b, bs b = kk.A code := ⟨⟨(kk.A code).toArray⟩, rfl⟩
          have hbS : Hid (S (kk.A code) = .string b) := (bs_eq hb).symm
          have HB := Lib.hid hb
          have hAn := HKV.out.A_ne HF.out
          have hb2 : b.size ≤ 2002 := by
            have hnx : kk.nxt ≤ 2000 := by have h1 := HKV.out.nxt_le; have h2 := HKV.out.s.l1024; omega
            unfold M.Kn.nxt at hnx; rw [bs_size, hb]; omega
          have hSof : ∀ {W' : World} {v : Value} {o' : M.Bytes}, WS w W' kk Ak ck v1 (ow ++ [kk.width]) v o' → w.heap.size < W'.heap.size ∧ gc < W'.heap.size ∧ W'.cell? ⟨w.heap.size, 0, none⟩ = some (.int .i64 kk.s.ord) ∧ W'.cell? ⟨w.heap.size, 1, none⟩ = some (.int .i64 kk.s.lit) ∧ W'.cell? ⟨w.heap.size, 2, none⟩ = some (.int .i64 kk.s.most) ∧ W'.cell? ⟨w.heap.size, 3, none⟩ = some (.slice Ak kk.ps.length ck) ∧ W'.cell? ⟨w.heap.size, 4, none⟩ = some (.int .i64 kk.base) ∧ W'.cell? ⟨w.heap.size, 5, none⟩ = some (.int .i64 kk.last) ∧ W'.cell? ⟨gc, i, none⟩ = some (.int .i64 code) := fun h => by
            obtain ⟨x9, x0, x1, x2, x3, x4, x5⟩ := h.kb.box
            exact ⟨x9, Nat.lt_of_lt_of_le hgc h.g.size, x0, x1, x2, x3, x4, x5, (h.g.cell (p := ⟨gc, i, none⟩) hgc).trans HCV.out⟩
          clear hb hAn
          have hgW := hW4.g
          go_region_held3 (fun w' => w.heap.size < w'.heap.size ∧ gc < w'.heap.size ∧ w'.cell? ⟨w.heap.size, 0, none⟩ = some (.int .i64 kk.s.ord) ∧ w'.cell? ⟨w.heap.size, 1, none⟩ = some (.int .i64 kk.s.lit) ∧ w'.cell? ⟨w.heap.size, 2, none⟩ = some (.int .i64 kk.s.most) ∧ w'.cell? ⟨w.heap.size, 3, none⟩ = some (.slice Ak kk.ps.length ck) ∧ w'.cell? ⟨w.heap.size, 4, none⟩ = some (.int .i64 kk.base) ∧ w'.cell? ⟨w.heap.size, 5, none⟩ = some (.int .i64 kk.last) ∧ w'.cell? ⟨gc, i, none⟩ = some (.int .i64 code)) (first | exact hSof hW6 | exact hSof hW5 | exact hSof (hW4.up (by repeat' (first | (with_reducible exact G.refl _) | (with_reducible assumption) | (with_reducible refine G.alloc ?_ _) | (with_reducible refine G.drew ?_) | (with_reducible refine G.drewN ?_ _) | (refine G.setCell ?_ (by first | (simp <;> done) | (simp <;> omega)) _) | (with_reducible refine G.trans ?_ (by with_reducible assumption)))))) (first | (refine step_fn ?sg3 131 #[.tmp 64, .tmp 68] #[40, 3] ?so3 #[knV kk Ak ck, .int .i64 code] ?sa3 cf_l2Any ?sh3; (case so3 => exact rfl); (case sg3 => exact rfl); (case sa3 => (simp only [List.map_toArray, List.map_cons, List.map_nil, Act.eval]; rfl)); refine (v_l2Any kk HKV.out Ak ck _ (hW4.kb.rd.g (by repeat' (first | (with_reducible exact G.refl _) | (with_reducible assumption) | (with_reducible refine G.alloc ?_ _) | (with_reducible refine G.drew ?_) | (with_reducible refine G.drewN ?_ _) | (refine G.setCell ?_ (by first | (simp <;> done) | (simp <;> omega)) _) | (with_reducible refine G.trans ?_ (by with_reducible assumption))))) code HF.out).mono ?_; rintro e w' ⟨rfl, h5⟩; rw [hbS.out]; refine ⟨_, rfl, ?_⟩; have hW5 := (hW4.up (G.refl _).drew).up h5) | (refine step_str ?sg4 (.tmp 63) (.tmp 69) ?so4 (w.heap.size + 2) _ od.length _ ?ss4 hW5.o9 b ?sx4 ?sl4 ?sb4 ?sh4; (case so4 => exact rfl); (case sg4 => exact rfl); (case ss4 => exact rfl); (case sx4 => exact rfl); (case sl4 => omega); (case sb4 => have := hW5.kb.lt; have := lt_of_block hW5.rb; omega); intro v2 w2 hown2 hg2 hat2; have hW6 := hW5.app9 hg2 (by rw [HB.out, bs_size, HB.out] at hown2; exact hown2) hat2; have hgW6 := hW6.g) | fail)
          go_wp2
          refine wp_gen (fun W => WS w W kk Ak ck v1 (ow ++ [kk.width]) v2 (od ++ kk.A code)) hW6 ?_
          rintro W7 hW7
          clear dcode k9 k0 k1 k2 k3 k4 k5 hgc1
          have dcode : W7.cell? ⟨gc, i, none⟩ = some (.int .i64 code) := (hW7.g.cell (p := ⟨gc, i, none⟩) hgc).trans HCV.out
          have hgc1 : gc < W7.heap.size := Nat.lt_of_lt_of_le hgc hW7.g.size
          obtain ⟨k9, k0, k1, k2, k3, k4, k5⟩ := hW7.kb.box
          clear hown2 hg2 hat2 hW5 hW6 hgW hgW6 h5
          have hgW := hW7.g
          go_region_law (first | (refine step_fn ?_ 136 #[.tmp 71, .tmp 75] #[40, 3] ?_ #[knV kk Ak ck, .int .i64 code] ?_ cf_l2Step ?_; exact rfl; exact rfl; (simp only [List.map_toArray, List.map_cons, List.map_nil, Act.eval]; rfl); refine (v_l2Step kk HKV.out Ak ck hW7.kb.cap _ (hW7.kb.rd.g (by repeat' (first | (with_reducible exact G.refl _) | (with_reducible assumption) | (with_reducible refine G.alloc ?_ _) | (with_reducible refine G.drew ?_) | (with_reducible refine G.drewN ?_ _) | (refine G.setCell ?_ (by first | (simp <;> done) | (simp <;> omega)) _) | (with_reducible refine G.trans ?_ (by with_reducible assumption))))) code (Or.inr HF.out)).mono ?_; rintro e wT ⟨⟨A5, c5, rfl, hR5⟩, h11⟩; have hK11 := hW7.kb.g (w' := wT) (by repeat' (first | (with_reducible exact G.refl _) | (with_reducible assumption) | (with_reducible refine G.alloc ?_ _) | (with_reducible refine G.drew ?_) | (with_reducible refine G.drewN ?_ _) | (refine G.setCell ?_ (by first | (simp <;> done) | (simp <;> omega)) _) | (with_reducible refine G.trans ?_ (by with_reducible assumption)))); have hfz11 := hK11.fz; obtain ⟨i9, i0, i1, i2, i3, i4, i5⟩ := hK11.box; refine ⟨_, rfl, ?_⟩) | fail)
          all_goals
            go_wp2
            go_roundw
            case rel =>
              have hws := hW7.set (k2 := kk.step code) (((G.refl _).drew).trans h11) (by simp) hR5
              simp only [M.Kn.step_s, M.Kn.step_base] at hws
              have hdd : M.Kn.dat k cs = (od ++ kk.A code) ++ M.Kn.dat (kk.step code) cs' := by
                rw [HDD.out]; simp only [M.Kn.dat, if_neg HNE.out, M.Kn.out, if_neg (HKV.out.follows_ne HF.out).1]; simp
              refine ⟨kk.step code, A5, c5, i + 1, cs', ow ++ [kk.width], od ++ kk.A code, by go_num, by omega, HCS.out, hws, HKV.out.step (Or.inr HF.out), HCS2.out, ?_, hdd, ?_, ?_⟩
              · show _ = _; rw [HWD.out]; simp [M.Kn.widths]
              · show _ = _; rw [List.length_append, HOW.out]; rfl
              · have := HDT.out; rw [hdd] at this; simp only [List.length_append] at this ⊢; omega
            case measure => simp [intOf]; omega
    · have hi1 : i = cs.length := by omega
      obtain ⟨k9, k0, k1, k2, k3, k4, k5⟩ := hWS.kb.box
      obtain ⟨r0, r1, r2, r3, r4, r5⟩ := hWS.rcell
      have hrf := hWS.rfz
      have HW2 := Lib.hid hWS
      have HOD := Lib.hid hod
      obtain ⟨A9, c9, e9⟩ := own_form hWS.o9
      subst e9
      have hneb : (Value.slice A9 od.length c9).ownBlock ≠ some (w.heap.size + 1) := fun e => by have := own_base hWS.o9 e; omega
      have hconv := conv_own wr _ _ _ _ _ hWS.o9
      have hconv2 := conv_own wr.drew _ _ _ _ _ (own_g hWS.o9 (G.refl _).drew)
      have hconv3 := conv_own _ _ _ _ _ _ (own_set6 (v0 := .int .i64 kk.s.ord) (v1 := .int .i64 kk.s.lit) (v2 := .int .i64 kk.s.most) (v3 := .slice Ak kk.ps.length ck) (v4 := .int .i64 kk.base) (v5 := .int .i64 kk.last) hWS.o9 hneb)
      have hconv4 := conv_own _ _ _ _ _ _ (own_g (own_set6 (v0 := .int .i64 kk.s.ord) (v1 := .int .i64 kk.s.lit) (v2 := .int .i64 kk.s.most) (v3 := .slice Ak kk.ps.length ck) (v4 := .int .i64 kk.base) (v5 := .int .i64 kk.last) hWS.o9 hneb) (G.refl _).drew)
      clear hWS
      go_wp2
      go_region
      go_wp2
      refine bodyPost_ret (results_cell_tmp3 rfl _ _ (w.heap.size + 1) [.int .i64 kk.s.ord, .int .i64 kk.s.lit, .int .i64 kk.s.most, .slice Ak kk.ps.length ck, .int .i64 kk.base, .int .i64 kk.last] _ rfl (cells6 (by go_cell) (by go_cell) (by go_cell) (by go_cell) (by go_cell) (by go_cell)) Tryz.underlying40 rfl (by kernel_rfl)) rfl ?_
      have hrest : rest = [] := by rw [← HRS.out, hi1]; simp
      have hlen : ow.length = cs.length := by rw [HOW.out, hi1]
      obtain ⟨A8, c8, e8⟩ := own_form HW2.out.o8
      subst e8
      have e1 : M.Kn.widths k cs = ow := by rw [HWD.out, hrest]; simp [M.Kn.widths]
      have e2 : M.Kn.dat k cs = od := by rw [HDD.out, hrest]; simp [M.Kn.dat]
      have hgg := HW2.out.g
      refine ⟨⟨kk, Ak, ck, A8, c8, ?_, ?_⟩, (by repeat' (first | (with_reducible exact G.refl _) | (with_reducible assumption) | (with_reducible refine G.alloc ?_ _) | (with_reducible refine G.drew ?_) | (with_reducible refine G.drewN ?_ _) | (refine G.setCell ?_ (by first | (simp <;> done) | (simp <;> omega)) _) | (with_reducible refine G.trans ?_ (by with_reducible assumption))))⟩
      · rw [e2, ← hlen]
        have hb : (Value.bool (decide ((od.length : Int) ≤ 2000))) = .bool true := by rw [decide_eq_true (by have := HOD.out; omega)]
        exact congrArg (fun z => Ending.returned (.tuple #[knV kk Ak ck, .slice A8 ow.length c8, S od, z])) hb
      · rw [e1, ← hlen]
        exact own_mono (own_g (own_set6 HW2.out.o8 (fun e => by have := own_base HW2.out.o8 e; omega)) (G.refl _).drew) (by omega)
end
end Go.Proofs.YtlaijbkonapdbaaGreat

namespace Go.Proofs.YtlaijbkonapdbaaGreat
open Go.RowKit
attribute [local go_sem] grow_cell grow_frozen conv_one
theorem cf_l1Code : ∀ args w, (callFunc 118 args).run Tryz.prog w = .ok (.enter 118 args) w := by intro args w; go_simp

theorem held3c {w w' : World} {r : Option Nat} (hg : GR w w' r) {a b c j k : Nat} {v0 v1 v2 : Value} (ha : r ≠ some a) (hb : r ≠ some b) (hc : r ≠ some c)
    (h : a < w.heap.size ∧ b < w.heap.size ∧ c < w.heap.size ∧ w.cell? ⟨a, 0, none⟩ = some v0 ∧ w.cell? ⟨b, j, none⟩ = some v1 ∧ w.cell? ⟨c, k, none⟩ = some v2) :
    a < w'.heap.size ∧ b < w'.heap.size ∧ c < w'.heap.size ∧ w'.cell? ⟨a, 0, none⟩ = some v0 ∧ w'.cell? ⟨b, j, none⟩ = some v1 ∧ w'.cell? ⟨c, k, none⟩ = some v2 := by
  obtain ⟨h1, h2, h3, h4, h5, h6⟩ := h
  have hs := hg.size
  exact ⟨by omega, by omega, by omega, (hg.cell h1 ha 0).trans h4, (hg.cell h2 hb j).trans h5, (hg.cell h3 hc k).trans h6⟩

section
variable (k : M.Kn) (hk : k.V) (A : Option Addr) (c : Nat) (hc : k.ps.length ≤ c) (w : World) (hr : Rds w 2 A k.ps.length (cP k.ps)) (hA : ∀ a, A = some a → a.block < w.heap.size)
include hk hr hc hA

set_option maxRecDepth 8000 in
set_option maxHeartbeats 4000000 in
theorem v_l2Pack (cs : List Nat) (hcs : cs.length ≤ 3100) (ho : M.Kn.okW k cs) (hdt : (M.Kn.dat k cs).length ≤ 2000) (Ac : Option Addr) (cc : Nat) (hrc : Rds w 1 Ac cs.length (cI cs)) :
    Calls Tryz.prog 96 #[knV k A c, .slice Ac cs.length cc] w fun e w' => e = .returned (S ((M.Kn.enc k cs).map M.bch)) ∧ G w w' := by
  have HRC := Lib.hid hrc
  have HA := Lib.hid hA
  have HO := Lib.hid ho
  have HR := Lib.hid hr
  have HDT := Lib.hid hdt
  clear ho hdt hr hA hrc
  go_enter Tryz.func96, Tryz.ntmps96
  go_wp2_with (first | (go_at_call 117; refine (v_l2Walk k hk A c hc _ (HR.out.g (by repeat' (first | (with_reducible exact G.refl _) | (with_reducible assumption) | (with_reducible refine G.alloc ?_ _) | (with_reducible refine G.drew ?_) | (with_reducible refine G.drewN ?_ _) | (refine G.setCell ?_ (by first | (simp <;> done) | (simp <;> omega)) _) | (with_reducible refine G.trans ?_ (by with_reducible assumption))))) (fun a ha => by have := HA.out a ha; simp; omega) cs hcs HO.out HDT.out Ac cc (HRC.out.g (by repeat' (first | (with_reducible exact G.refl _) | (with_reducible assumption) | (with_reducible refine G.alloc ?_ _) | (with_reducible refine G.drew ?_) | (with_reducible refine G.drewN ?_ _) | (refine G.setCell ?_ (by first | (simp <;> done) | (simp <;> omega)) _) | (with_reducible refine G.trans ?_ (by with_reducible assumption)))))).mono ?_; rintro e w' ⟨⟨k', A', c', Aw, cw, rfl, hR1⟩, h2⟩; obtain ⟨hch2, hfh2⟩ := gcell h2) | fail)
  rename World => wW
  go_loopw [5, 10] (fun v x wr => ∃ (kk : M.Kn) (i : Nat) (rest : List Nat) (ob : List Bool), x = .int .i64 i ∧ i ≤ cs.length ∧ Hid (cs.drop i = rest) ∧ Hid ((M.Kn.widths k cs).drop i = M.Kn.widths kk rest) ∧ Hid (rest ≠ [] → kk.V) ∧ Hid (kk.s = k.s) ∧ Hid (M.Kn.okW kk rest) ∧ Hid (M.Kn.enc k cs = ob ++ M.Kn.enc kk rest) ∧ ob.length ≤ 10 * i
      ∧ wr.ownsRow (w.heap.size + 1) 5 1 v ob.length (cB (ob.map M.bch)) ∧ GR wW wr (some (w.heap.size + 1)) ∧ VR wW (some (w.heap.size + 1)) v) (fun _ x _ => cs.length - (intOf x).toNat)
  case atStart =>
    refine ⟨k, 0, cs, [], rfl, by omega, rfl, rfl, fun _ => hk, rfl, HO.out, rfl, by simp, ?_, ?_, ?_⟩
    · exact own_g (own_g (own_alloc _ 5 1 (w.heap.size + 1) _ (by simp) (by simp)) h2) ((G.refl _).alloc _)
    · exact GR.of_g ((G.refl _).alloc _) _
    · exact fun g hg => Or.inl hg
  case round =>
    obtain ⟨kk, i, rest, ob, rfl, hi, HRS, HWR, HKV, HKS, HOK, HE, hob, hown, hG, hV⟩ := hrel
    by_cases hlt : i < cs.length
    · obtain ⟨code, hcode⟩ : ∃ x, cs[i]? = some x := ⟨_, List.getElem?_eq_getElem hlt⟩
      obtain ⟨cs', hcs'⟩ : ∃ x, cs.drop (i + 1) = x := ⟨_, rfl⟩
      have hrest : rest = code :: cs' := by
        rw [← HRS.out, List.drop_eq_getElem_cons hlt, ← hcs']
        rw [List.getElem?_eq_getElem hlt] at hcode; injection hcode with hcode; rw [hcode]
      subst hrest
      have HKV2 : Hid kk.V := HKV.out (by simp)
      have hwc : (M.Kn.widths k cs)[i]? = some kk.width := by
        have h := congrArg (fun l => l[0]?) HWR.out
        simpa [M.Kn.widths, List.getElem?_drop] using h
      obtain ⟨gc, hAc, hgc, hcell⟩ := HRC.out.at_ (by omega)
      have hcv := hcell i _ (cI_get cs i code hcode)
      obtain ⟨gw, hAw, hgw, hcellw⟩ := (Rds.own hR1).at_ (by omega)
      have hwv := hcellw i _ (cI_get _ i _ hwc)
      have hgw2 := own_base hR1 (g := gw) (by rw [hAw]; rfl)
      have hs1 := h2.size
      simp at hs1 hgw2
      have hc1024 : code < 1024 := by
        have h1 := HKV2.out.greatest_le; have h3 := HKV2.out.s.l1024; have h4 := HKV2.out.s.c256; have h5 := M.St.e_eq kk.s
        rcases HOK.out with ⟨he, _⟩ | ⟨_, he | hf, _⟩
        · omega
        · omega
        · have := HKV2.out.c_lt_width; have := M.Kn.V.greatest_lt_width (k := kk); unfold M.Kn.follows at hf; omega
      have hw10 := HKV2.out.width_le
      have ho1 : k.s.ord ≤ 1 := hk.s.ord
      have hS0 : w.heap.size < wW.heap.size ∧ gc < wW.heap.size ∧ gw < wW.heap.size ∧ wW.cell? ⟨w.heap.size, 0, none⟩ = some (.int .i64 k.s.ord) ∧ wW.cell? ⟨gc, i, none⟩ = some (.int .i64 code) ∧ wW.cell? ⟨gw, i, none⟩ = some (.int .i64 kk.width) :=
        ⟨by omega, by omega, hgw, (h2.cell (p := ⟨w.heap.size, 0, none⟩) (by simp only [World.size_alloc]; omega)).trans (by go_cell), ((show G w wW from (by repeat' (first | (with_reducible exact G.refl _) | (with_reducible assumption) | (with_reducible refine G.alloc ?_ _) | (with_reducible refine G.drew ?_) | (with_reducible refine G.drewN ?_ _) | (refine G.setCell ?_ (by first | (simp <;> done) | (simp <;> omega)) _) | (with_reducible refine G.trans ?_ (by with_reducible assumption))))).cell (p := ⟨gc, i, none⟩) hgc).trans hcv, hwv⟩
      have n1 : (some (w.heap.size + 1)) ≠ some w.heap.size := by simp
      have n2 : (some (w.heap.size + 1)) ≠ some gc := by simp; omega
      have n3 : (some (w.heap.size + 1)) ≠ some gw := by simp; omega
      subst hAc
      subst hAw
      have b1 : (0 : Int) ≤ (i : Int) := by omega
      have b2 : (i : Int) < (cs.length : Int) := by omega
      have HCS := Lib.hid hcs'
      obtain ⟨y, hy⟩ : ∃ y : ByteArray, bs y = (M.bitsO k.s.ord code kk.width).map M.bch := ⟨⟨((M.bitsO k.s.ord code kk.width).map M.bch).toArray⟩, rfl⟩
      have HYS : Hid (S ((M.bitsO k.s.ord code kk.width).map M.bch) = .string y) := (bs_eq hy).symm
      have hyl : y.size = kk.width := by rw [bs_size, hy]; simp
      have hyl2 : y.size ≤ 10 := by omega
      have HYL := Lib.hid hyl
      have HY := Lib.hid hy
      have HWC := Lib.hid hwc
      have hsg := hG.size
      clear hcs' hy hyl hwc hcode hcell hcellw hcv hwv
      go_wp2
      go_region_held3 (fun w' => w.heap.size < w'.heap.size ∧ gc < w'.heap.size ∧ gw < w'.heap.size ∧ w'.cell? ⟨w.heap.size, 0, none⟩ = some (.int .i64 k.s.ord) ∧ w'.cell? ⟨gc, i, none⟩ = some (.int .i64 code) ∧ w'.cell? ⟨gw, i, none⟩ = some (.int .i64 kk.width)) (first | exact held3c hGq n1 n2 n3 hS0 | exact held3c (hG.g (by repeat' (first | (with_reducible exact G.refl _) | (with_reducible assumption) | (with_reducible refine G.alloc ?_ _) | (with_reducible refine G.drew ?_) | (with_reducible refine G.drewN ?_ _) | (refine G.setCell ?_ (by first | (simp <;> done) | (simp <;> omega)) _) | (with_reducible refine G.trans ?_ (by with_reducible assumption))))) n1 n2 n3 hS0) (first | (refine step_fn ?sg 118 #[.tmp 29, .tmp 33, .tmp 37] #[3, 3, 3] ?so #[.int .i64 k.s.ord, .int .i64 code, .int .i64 kk.width] ?sa cf_l1Code ?sh; (case so => exact rfl); (case sg => exact rfl); (case sa => (simp only [List.map_toArray, List.map_cons, List.map_nil, Act.eval]; rfl)); refine (v_l1Code k.s.ord code kk.width ho1 hw10 hc1024 _).mono ?_; rintro e w' ⟨rfl, h5⟩; rw [HYS.out]; refine ⟨_, rfl, ?_⟩; have hs5 := h5.size; have hGp := hG.g (((G.refl wr).drew).trans h5)) | (refine step_str ?ug (.tmp 26) (.tmp 38) ?uo (w.heap.size + 1) _ ob.length _ ?us (own_g hown (by repeat' (first | (with_reducible exact G.refl _) | (with_reducible assumption) | (with_reducible refine G.alloc ?_ _) | (with_reducible refine G.drew ?_) | (with_reducible refine G.drewN ?_ _) | (refine G.setCell ?_ (by first | (simp <;> done) | (simp <;> omega)) _) | (with_reducible refine G.trans ?_ (by with_reducible assumption))))) y ?ux ?ul ?ub ?uh; (case uo => exact rfl); (case ug => exact rfl); (case us => exact rfl); (case ux => exact rfl); (case ul => omega); (case ub => simp at hs5; omega); intro v2 w2 hown2 hg2 hat2; have hGq := hGp.step hV hg2; have hVq := VR.step hGp.size hV hat2) | fail)
      go_wp2
      go_roundw
      case rel =>
        have hstep : ∀ h : cs' ≠ [], (kk.step code).V ∧ True := fun h => by
          rcases HOK.out with ⟨_, hn⟩ | ⟨_, hf, _⟩
          · exact absurd hn h
          · exact ⟨HKV2.out.step hf, trivial⟩
        refine ⟨kk.step code, i + 1, cs', ob ++ M.bitsO k.s.ord code kk.width, by go_num, by omega, HCS.out, ?_, fun h => (hstep h).1, ?_, ?_, ?_, ?_, ?_, hGq, hVq⟩
        · have h := congrArg List.tail HWR.out
          show _ = _
          simpa [M.Kn.widths, List.tail_drop] using h
        · show _ = _; rw [M.Kn.step_s]; exact HKS.out
        · rcases HOK.out with ⟨_, hn⟩ | ⟨_, _, hok⟩
          · rw [hn]; trivial
          · exact hok
        · show _ = _; rw [HE.out]; simp only [M.Kn.enc]; rw [HKS.out]; simp
        · simp; omega
        · have e : ob.length + y.size = (ob ++ M.bitsO k.s.ord code kk.width).length := by rw [HYL.out]; simp
          rw [HY.out, e] at hown2
          rw [List.map_append, cB_append]; exact hown2
      case measure => simp [intOf]; omega
    · have hi1 : i = cs.length := by omega
      have hrest : rest = [] := by rw [← HRS.out, hi1]; simp
      have e1 : M.Kn.enc k cs = ob := by rw [HE.out, hrest]; simp [M.Kn.enc]
      obtain ⟨A9, c9, e9⟩ := own_form hown
      subst e9
      have HE1 := Lib.hid e1
      have hol : ob.length = (ob.map M.bch).length := by simp
      generalize hL : ob.map M.bch = L at hown hol
      have HL := Lib.hid hL
      rw [hol] at hown
      have hconv := conv_own _ _ _ _ _ _ hown
      rw [← hol] at hconv
      clear hown hL hol e1 hi1 hrest
      go_wp2
      go_ret
      refine ⟨by rw [HE1.out, HL.out]; rfl, ?_⟩
      have hgg : G w wW := (by repeat' (first | (with_reducible exact G.refl _) | (with_reducible assumption) | (with_reducible refine G.alloc ?_ _) | (with_reducible refine G.drew ?_) | (with_reducible refine G.drewN ?_ _) | (refine G.setCell ?_ (by first | (simp <;> done) | (simp <;> omega)) _) | (with_reducible refine G.trans ?_ (by with_reducible assumption))))
      exact hgg.grown hG (fun g h => by injection h with h; omega)
end
end Go.Proofs.YtlaijbkonapdbaaGreat

namespace Go.Proofs.YtlaijbkonapdbaaGreat
open Go.RowKit
attribute [local go_sem] grow_cell grow_frozen conv_one
theorem cf_l2Greedy : ∀ args w, (callFunc 97 args).run Tryz.prog w = .ok (.enter 97 args) w := by intro args w; go_simp
theorem cf_l2Pack : ∀ args w, (callFunc 96 args).run Tryz.prog w = .ok (.enter 96 args) w := by intro args w; go_simp
theorem cf_l1Pack : ∀ args w, (callFunc 95 args).run Tryz.prog w = .ok (.enter 95 args) w := by intro args w; go_simp

section
variable (k : M.Kn) (hk : k.V) (A : Option Addr) (c : Nat) (hc : k.ps.length ≤ c) (w : World) (hr : Rds w 2 A k.ps.length (cP k.ps)) (hA : ∀ a, A = some a → a.block < w.heap.size)
include hk hr hc hA

set_option maxRecDepth 8000 in
set_option maxHeartbeats 4000000 in
theorem v_l2Compress (d : M.Bytes) (hd : M.Kn.fits k.s.c d) (hdl : d.length ≤ 1000) (b : ByteArray) (hb : bs b = d) :
    Calls Tryz.prog 75 #[knV k A c, .string b] w fun e w' => e = .returned (S (M.Kn.compress k d)) ∧ G w w' := by
  have HB := Lib.hid hb
  have HD := Lib.hid hd
  have HA := Lib.hid hA
  have HR := Lib.hid hr
  have HG := Lib.hid (M.Kn.greedyCodes_ok hk hd)
  have HL : Hid ((M.Kn.greedyCodes k d).length ≤ 2002) := by have := M.Kn.greedyCodes_len k d; show _ ≤ _; omega
  have HE : Hid ((M.Kn.enc k (M.Kn.greedyCodes k d)).length ≤ 32000) := by have := M.Kn.compress_len hk hd; show _ ≤ _; omega
  have ho1 : k.s.ord ≤ 1 := hk.s.ord
  obtain ⟨y, hy⟩ : ∃ y : ByteArray, bs y = (M.Kn.enc k (M.Kn.greedyCodes k d)).map M.bch := ⟨⟨((M.Kn.enc k (M.Kn.greedyCodes k d)).map M.bch).toArray⟩, rfl⟩
  have HYS : Hid (S ((M.Kn.enc k (M.Kn.greedyCodes k d)).map M.bch) = .string y) := (bs_eq hy).symm
  have HY := Lib.hid hy
  clear hb hd hA hr hy
  go_enter Tryz.func75, Tryz.ntmps75
  go_wp2
  have hS0 : w.heap.size < (w.alloc (.cells #[.int .i64 k.s.ord, .int .i64 k.s.lit, .int .i64 k.s.most, .slice A k.ps.length c, .int .i64 k.base, .int .i64 k.last] 40)).heap.size ∧ (w.alloc (.cells #[.int .i64 k.s.ord, .int .i64 k.s.lit, .int .i64 k.s.most, .slice A k.ps.length c, .int .i64 k.base, .int .i64 k.last] 40)).cell? ⟨w.heap.size, 0, none⟩ = some (.int .i64 k.s.ord) ∧ (w.alloc (.cells #[.int .i64 k.s.ord, .int .i64 k.s.lit, .int .i64 k.s.most, .slice A k.ps.length c, .int .i64 k.base, .int .i64 k.last] 40)).cell? ⟨w.heap.size, 1, none⟩ = some (.int .i64 k.s.lit) ∧ (w.alloc (.cells #[.int .i64 k.s.ord, .int .i64 k.s.lit, .int .i64 k.s.most, .slice A k.ps.length c, .int .i64 k.base, .int .i64 k.last] 40)).cell? ⟨w.heap.size, 2, none⟩ = some (.int .i64 k.s.most) ∧ (w.alloc (.cells #[.int .i64 k.s.ord, .int .i64 k.s.lit, .int .i64 k.s.most, .slice A k.ps.length c, .int .i64 k.base, .int .i64 k.last] 40)).cell? ⟨w.heap.size, 3, none⟩ = some (.slice A k.ps.length c) ∧ (w.alloc (.cells #[.int .i64 k.s.ord, .int .i64 k.s.lit, .int .i64 k.s.most, .slice A k.ps.length c, .int .i64 k.base, .int .i64 k.last] 40)).cell? ⟨w.heap.size, 4, none⟩ = some (.int .i64 k.base) ∧ (w.alloc (.cells #[.int .i64 k.s.ord, .int .i64 k.s.lit, .int .i64 k.s.most, .slice A k.ps.length c, .int .i64 k.base, .int .i64 k.last] 40)).cell? ⟨w.heap.size, 5, none⟩ = some (.int .i64 k.last) := ⟨by simp, by go_cell, by go_cell, by go_cell, by go_cell, by go_cell, by go_cell⟩
  go_region_held3 (fun w' => w.heap.size < w'.heap.size ∧ w'.cell? ⟨w.heap.size, 0, none⟩ = some (.int .i64 k.s.ord) ∧ w'.cell? ⟨w.heap.size, 1, none⟩ = some (.int .i64 k.s.lit) ∧ w'.cell? ⟨w.heap.size, 2, none⟩ = some (.int .i64 k.s.most) ∧ w'.cell? ⟨w.heap.size, 3, none⟩ = some (.slice A k.ps.length c) ∧ w'.cell? ⟨w.heap.size, 4, none⟩ = some (.int .i64 k.base) ∧ w'.cell? ⟨w.heap.size, 5, none⟩ = some (.int .i64 k.last)) (exact held6 (by repeat' (first | (with_reducible exact G.refl _) | (with_reducible assumption) | (with_reducible refine G.alloc ?_ _) | (with_reducible refine G.drew ?_) | (with_reducible refine G.drewN ?_ _) | (refine G.setCell ?_ (by first | (simp <;> done) | (simp <;> omega)) _) | (with_reducible refine G.trans ?_ (by with_reducible assumption)))) hS0) (first | (refine step_fn ?ag 97 #[.tmp 9, .tmp 10] #[40, 9] ?ao #[knV k A c, .string b] ?aa cf_l2Greedy ?ah; (case ao => exact rfl); (case ag => exact rfl); (case aa => (simp only [List.map_toArray, List.map_cons, List.map_nil, Act.eval]; rfl)); refine (v_l2Greedy k hk A c hc _ (HR.out.g (by repeat' (first | (with_reducible exact G.refl _) | (with_reducible assumption) | (with_reducible refine G.alloc ?_ _) | (with_reducible refine G.drew ?_) | (with_reducible refine G.drewN ?_ _) | (refine G.setCell ?_ (by first | (simp <;> done) | (simp <;> omega)) _) | (with_reducible refine G.trans ?_ (by with_reducible assumption))))) (fun a ha => by have := HA.out a ha; simp; omega) d HD.out hdl b HB.out).mono ?_; rintro e w' ⟨⟨A1, c1, rfl, hR1⟩, h5⟩; refine ⟨_, rfl, ?_⟩; have hs5 := h5.size) | (refine step_fn ?bg 96 #[.tmp 8, .tmp 11] #[40, 104] ?bo #[knV k A c, .slice A1 (M.Kn.greedyCodes k d).length c1] ?ba cf_l2Pack ?bh; (case bo => exact rfl); (case bg => exact rfl); (case ba => (simp only [List.map_toArray, List.map_cons, List.map_nil, Act.eval]; rfl)); refine (v_l2Pack k hk A c hc _ (HR.out.g (by repeat' (first | (with_reducible exact G.refl _) | (with_reducible assumption) | (with_reducible refine G.alloc ?_ _) | (with_reducible refine G.drew ?_) | (with_reducible refine G.drewN ?_ _) | (refine G.setCell ?_ (by first | (simp <;> done) | (simp <;> omega)) _) | (with_reducible refine G.trans ?_ (by with_reducible assumption))))) (fun a ha => by have := HA.out a ha; simp at hs5; omega) (M.Kn.greedyCodes k d) (by have := HL.out; omega) (M.Kn.okW_of_okC _ _ HG.out.1) (by rw [HG.out.2]; omega) A1 c1 (Rds.own hR1)).mono ?_; rintro e w' ⟨rfl, h6⟩; rw [HYS.out]; refine ⟨_, rfl, ?_⟩) | (refine step_fn ?cg 95 #[.tmp 7, .tmp 12] #[3, 9] ?co #[.int .i64 k.s.ord, .string y] ?ca cf_l1Pack ?ch; (case co => exact rfl); (case cg => exact rfl); (case ca => (simp only [List.map_toArray, List.map_cons, List.map_nil, Act.eval]; rfl)); refine (v_l1Pack k.s.ord ho1 _ HE.out y HY.out _).mono ?_; rintro e w' ⟨rfl, h7⟩; refine ⟨_, rfl, ?_⟩) | fail)
  go_wp2
  go_ret
  exact ⟨rfl, (by repeat' (first | (with_reducible exact G.refl _) | (with_reducible assumption) | (with_reducible refine G.alloc ?_ _) | (with_reducible refine G.drew ?_) | (with_reducible refine G.drewN ?_ _) | (refine G.setCell ?_ (by first | (simp <;> done) | (simp <;> omega)) _) | (with_reducible refine G.trans ?_ (by with_reducible assumption))))⟩
end
end Go.Proofs.YtlaijbkonapdbaaGreat

namespace Go.Proofs.YtlaijbkonapdbaaGreat
open Go.RowKit
open Go.PlainAid (bt get_bt bt_nonneg bt_le)
attribute [local go_sem] grow_cell grow_frozen conv_one

instance (c : Nat) (d : M.Bytes) : Decidable (M.Kn.fits c d) := by unfold M.Kn.fits; infer_instance

section
variable (s : M.St) (hs : s.Ok) (d : M.Bytes) (b : ByteArray) (hb : bs b = d) (hbl : b.size ≤ 2000) (r : Bool) (w : World)
include hs hb hbl

set_option maxHeartbeats 1000000 in
theorem v_l1Fits (hr : decide (M.Kn.fits s.c d) = r) : Calls Tryz.prog 58 #[stV s, .string b] w fun e w' => e = .returned (.bool r) ∧ G w w' := by
  have hc := hs.c256
  have HB := Lib.hid hb
  have HR := Lib.hid hr
  have hsz := bs_size b
  have hget := get_bt b
  have hdl : d.length = b.size := by rw [← hb, ← hsz]
  have HDL := Lib.hid hdl
  clear hb hr hsz hdl
  go_enter Tryz.func58, Tryz.ntmps58
  go_wp2
  go_loopw [5] (fun x wr => ∃ i : Nat, x = .int .i64 i ∧ i ≤ b.size ∧ Hid (∀ j, j < i → ∀ y, d[j]? = some y → y.toNat < s.c) ∧ SBox wr w.heap.size s ∧ G w wr) (fun x _ => b.size - (intOf x).toNat)
  case atStart => exact ⟨0, rfl, by omega, fun j hj => absurd hj (by omega), ⟨by simp, by go_cell, by go_cell, by go_cell⟩, (by repeat' (first | (with_reducible exact G.refl _) | (with_reducible assumption) | (with_reducible refine G.alloc ?_ _) | (with_reducible refine G.drew ?_) | (with_reducible refine G.drewN ?_ _) | (refine G.setCell ?_ (by first | (simp <;> done) | (simp <;> omega)) _) | (with_reducible refine G.trans ?_ (by with_reducible assumption))))⟩
  case round =>
    obtain ⟨i, rfl, hi, HI, hB, hG⟩ := hrel
    have HBX := Lib.hid hB
    obtain ⟨k9, k0, k1, k2⟩ := hB
    by_cases hlt : i < b.size
    · obtain ⟨y, hy⟩ : ∃ y, d[i]? = some y := ⟨_, List.getElem?_eq_getElem (by have := HDL.out; omega)⟩
      have hbt := bt_bs HB.out i y hy
      have hy8 := y.toNat_lt
      have HY := Lib.hid hy
      have b1 : (0 : Int) ≤ (i : Int) := by omega
      have b2 : (i : Int) < (b.size : Int) := by omega
      have hxw : IntKind.i64.wrap (y.toNat : Int) = y.toNat := IntWalk.i64_in _ ⟨by omega, by omega⟩
      clear hy
      by_cases hcmp : s.c ≤ y.toNat
      · go_wp2
        refine wp_region_quiet_below (by kernel_rfl) (by kernel_rfl) ?_
        repeat (first | go_big_quiet_step ((first | (go_at_call 71; exact qcall (v_l1Clear s hs _)))) | quiet_step ((first | (go_at_call 71; exact qcall (v_l1Clear s hs _)))))
        refine wpQuiet_nil ?_
        intro w' hw'
        have h2 := G.of_regrown hw'
        clear hw'
        obtain ⟨hch2, hfh2⟩ := gcell h2
        go_wp2
        go_ret
        refine ⟨ret_bool ?_, (by repeat' (first | (with_reducible exact G.refl _) | (with_reducible assumption) | (with_reducible refine G.alloc ?_ _) | (with_reducible refine G.drew ?_) | (with_reducible refine G.drewN ?_ _) | (refine G.setCell ?_ (by first | (simp <;> done) | (simp <;> omega)) _) | (with_reducible refine G.trans ?_ (by with_reducible assumption))))⟩
        rw [← HR.out]
        symm; simp only [decide_eq_false_iff_not]
        intro hf
        have := hf y (List.mem_of_getElem? HY.out)
        omega
      · go_wp2
        refine wp_region_quiet_below (by kernel_rfl) (by kernel_rfl) ?_
        repeat (first | go_big_quiet_step ((first | (go_at_call 71; exact qcall (v_l1Clear s hs _)))) | quiet_step ((first | (go_at_call 71; exact qcall (v_l1Clear s hs _)))))
        refine wpQuiet_nil ?_
        intro w' hw'
        have h2 := G.of_regrown hw'
        clear hw'
        obtain ⟨hch2, hfh2⟩ := gcell h2
        go_wp2
        go_roundw
        case rel =>
          refine ⟨i + 1, by go_num, by omega, ?_, HBX.out.g h2, (by repeat' (first | (with_reducible exact G.refl _) | (with_reducible assumption) | (with_reducible refine G.alloc ?_ _) | (with_reducible refine G.drew ?_) | (with_reducible refine G.drewN ?_ _) | (refine G.setCell ?_ (by first | (simp <;> done) | (simp <;> omega)) _) | (with_reducible refine G.trans ?_ (by with_reducible assumption))))⟩
          intro j hj z hz
          rcases Nat.lt_or_ge j i with h5 | h5
          · exact HI.out j h5 z hz
          · have : j = i := by omega
            subst this
            rw [HY.out] at hz; injection hz with hz; subst hz; omega
        case measure => simp [intOf]; omega
    · go_wp2
      go_ret
      refine ⟨ret_bool ?_, (by repeat' (first | (with_reducible exact G.refl _) | (with_reducible assumption) | (with_reducible refine G.alloc ?_ _) | (with_reducible refine G.drew ?_) | (with_reducible refine G.drewN ?_ _) | (refine G.setCell ?_ (by first | (simp <;> done) | (simp <;> omega)) _) | (with_reducible refine G.trans ?_ (by with_reducible assumption))))⟩
      rw [← HR.out]
      symm; simp only [decide_eq_true_eq]
      intro z hz
      obtain ⟨j, hj, hz2⟩ := List.getElem_of_mem hz
      exact HI.out j (by have := HDL.out; omega) z (by rw [List.getElem?_eq_getElem hj, hz2])
end

section
variable (s : M.St) (hs : s.Ok) (d : M.Bytes) (b : ByteArray) (hb : bs b = d) (hbl : b.size ≤ 100000000) (r : Bool) (w : World)
include hs hb hbl

set_option maxHeartbeats 1000000 in
theorem v_DataFits_spec (hr : decide (b.size ≤ 2000 ∧ M.Kn.fits s.c d) = r) : Calls Tryz.prog 41 #[stV s, .string b] w fun e w' => e = .returned (.bool r) ∧ G w w' := by
  by_cases h : b.size ≤ 2000
  · have hr2 : decide (M.Kn.fits s.c d) = r := by rw [← hr]; simp [h]
    have HR := Lib.hid hr2
    have HB := Lib.hid hb
    clear hr hr2 hb
    go_enter Tryz.func41, Tryz.ntmps41
    go_wp2_with (first | (go_at_call 57; refine (v_SettingValid_spec s hs _).mono ?_; rintro e w' ⟨rfl, h1⟩; obtain ⟨hch1, hfh1⟩ := gcell h1; try (have hzh1 : w.heap.size < w'.heap.size := by have := h1.size; (try simp at this); omega); try (have hyh1 : w.heap.size + 1 < w'.heap.size := by have := h1.size; (try simp at this); omega)) | (go_at_call 58; refine (v_l1Fits s hs d b HB.out h r _ HR.out).mono ?_; rintro e w' ⟨rfl, h2⟩; obtain ⟨hch2, hfh2⟩ := gcell h2; try (have hzh2 : w.heap.size < w'.heap.size := by have := h2.size; (try simp at this); omega); try (have hyh2 : w.heap.size + 1 < w'.heap.size := by have := h2.size; (try simp at this); omega)) | fail)
    go_ret
    exact ⟨rfl, (by repeat' (first | (with_reducible exact G.refl _) | (with_reducible assumption) | (with_reducible refine G.alloc ?_ _) | (with_reducible refine G.drew ?_) | (with_reducible refine G.drewN ?_ _) | (refine G.setCell ?_ (by first | (simp <;> done) | (simp <;> omega)) _) | (with_reducible refine G.trans ?_ (by with_reducible assumption))))⟩
  · have hr2 : r = false := by rw [← hr]; simp [h]
    subst hr2
    clear hr hb
    go_enter Tryz.func41, Tryz.ntmps41
    go_wp2_with (first | (go_at_call 57; refine (v_SettingValid_spec s hs _).mono ?_; rintro e w' ⟨rfl, h1⟩; obtain ⟨hch1, hfh1⟩ := gcell h1; try (have hzh1 : w.heap.size < w'.heap.size := by have := h1.size; (try simp at this); omega); try (have hyh1 : w.heap.size + 1 < w'.heap.size := by have := h1.size; (try simp at this); omega)) | fail)
    go_ret
    exact ⟨rfl, (by repeat' (first | (with_reducible exact G.refl _) | (with_reducible assumption) | (with_reducible refine G.alloc ?_ _) | (with_reducible refine G.drew ?_) | (with_reducible refine G.drewN ?_ _) | (refine G.setCell ?_ (by first | (simp <;> done) | (simp <;> omega)) _) | (with_reducible refine G.trans ?_ (by with_reducible assumption))))⟩
end
end Go.Proofs.YtlaijbkonapdbaaGreat

namespace Go.Proofs.YtlaijbkonapdbaaGreat
open Go.RowKit
attribute [local go_sem] grow_cell grow_frozen conv_one

theorem results_cell_tmp1 {P : Program} {fn : Func} {p t1 : Tmp} {ty : TypeId} (h : fn.results = #[.cell p ty, .tmp t1]) (tmps : Array Value) (w : World) (g : Nat) (cs : List Value) (d : TypeDesc)
    (hp : tmps.getD p undef = .pointer (some ⟨g, 0, none⟩)) (hc : ∀ j v, cs[j]? = some v → w.cell? ⟨g, j, none⟩ = some v)
    (hu : P.underlying ty = some d) (hd : (match d with | .struct _ | .array _ _ => true | _ => false) = true) (hi : (P.info? ty).map (·.size) = some cs.length) :
    (results fn tmps).run P w = .ok (.tuple #[.agg cs.toArray, tmps.getD t1 undef]) w := by
  have hl : (loadCells ⟨g, 0, none⟩ cs.length).run P w = .ok cs.toArray w :=
    run_loadCells_list (P := P) w ⟨g, 0, none⟩ cs (fun j v hv => by
      have hadd : (⟨g, 0, none⟩ : Addr).add j = ⟨g, j, none⟩ := by unfold Addr.add; split <;> simp_all
      rw [hadd]; exact hc j v hv)
  have hp' : tmps[p]?.getD undef = .pointer (some ⟨g, 0, none⟩) := by simpa using hp
  cases hq : P.info? ty with
  | none => simp [hq] at hi
  | some i =>
    have hs : i.size = cs.length := by simpa [hq] using hi
    have hagg : (isAgg ty).run P w = .ok true w := by
      unfold isAgg
      rw [Sem.run_bind, run_underlying hu w]
      cases d <;> simp_all
    have hlv : (loadVar ty ⟨g, 0, none⟩).run P w = .ok (.agg cs.toArray) w := by simp [loadVar, Sem.run_bind, hagg, sizeOf, typeInfo, hq, hs, hl]
    simp [results, h, hp', asAddr, hlv]

section
variable (s : M.St) (hs : s.Ok) (w : World)
include hs
theorem v_Start_spec : Calls Tryz.prog 72 #[stV s] w fun e w' => e = .returned (.tuple #[knV (M.start s) none 0, .bool true]) ∧ G w w' := by
  go_enter Tryz.func72, Tryz.ntmps72
  go_wp2_with (first | (go_at_call 57; refine (v_SettingValid_spec s hs _).mono ?_; rintro e w' ⟨rfl, h1⟩; obtain ⟨hch1, hfh1⟩ := gcell h1; try (have hzh1 : w.heap.size < w'.heap.size := by have := h1.size; (try simp at this); omega); try (have hyh1 : w.heap.size + 1 < w'.heap.size := by have := h1.size; (try simp at this); omega)) | fail)
  refine bodyPost_ret (results_cell_tmp1 rfl _ _ (w.heap.size + 1) [.int .i64 s.ord, .int .i64 s.lit, .int .i64 s.most, .slice none 0 0, .int .i64 0, .int .i64 (-1)] _ rfl (cells6 (by go_cell) (by go_cell) (by go_cell) (by go_cell) (by go_cell) (by go_cell)) Tryz.underlying40 rfl (by kernel_rfl)) rfl ?_
  exact ⟨rfl, (by repeat' (first | (with_reducible exact G.refl _) | (with_reducible assumption) | (with_reducible refine G.alloc ?_ _) | (with_reducible refine G.drew ?_) | (with_reducible refine G.drewN ?_ _) | (refine G.setCell ?_ (by first | (simp <;> done) | (simp <;> omega)) _) | (with_reducible refine G.trans ?_ (by with_reducible assumption))))⟩
theorem v_Start_impl : Calls Tryz.prog 43 #[stV s] w fun e w' => e = .returned (.tuple #[knV (M.start s) none 0, .bool true]) ∧ G w w' := by
  go_enter Tryz.func43, Tryz.ntmps43
  go_wp2_with (first | (go_at_call 61; refine (v_SettingValid_impl s hs _).mono ?_; rintro e w' ⟨rfl, h1⟩; obtain ⟨hch1, hfh1⟩ := gcell h1; try (have hzh1 : w.heap.size < w'.heap.size := by have := h1.size; (try simp at this); omega); try (have hyh1 : w.heap.size + 1 < w'.heap.size := by have := h1.size; (try simp at this); omega)) | fail)
  refine bodyPost_ret (results_cell_tmp1 rfl _ _ (w.heap.size + 1) [.int .i64 s.ord, .int .i64 s.lit, .int .i64 s.most, .slice none 0 0, .int .i64 0, .int .i64 (-1)] _ rfl (cells6 (by go_cell) (by go_cell) (by go_cell) (by go_cell) (by go_cell) (by go_cell)) Tryz.underlying40 rfl (by kernel_rfl)) rfl ?_
  exact ⟨rfl, (by repeat' (first | (with_reducible exact G.refl _) | (with_reducible assumption) | (with_reducible refine G.alloc ?_ _) | (with_reducible refine G.drew ?_) | (with_reducible refine G.drewN ?_ _) | (refine G.setCell ?_ (by first | (simp <;> done) | (simp <;> omega)) _) | (with_reducible refine G.trans ?_ (by with_reducible assumption))))⟩
end
end Go.Proofs.YtlaijbkonapdbaaGreat
