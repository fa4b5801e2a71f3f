/-
  FnExactAppendDataSaid is proved: for every input FnExactAppendData returns true, and each argument reads afterwards as it read before; no conditions. Part 13 of 25.
-/
import Derived.Test.YtlaijbkonapdbaaGreatA12

set_option linter.all false

namespace Go.Proofs.YtlaijbkonapdbaaGreat
open Go.RowKit
attribute [local go_sem] grow_cell grow_frozen conv_one

theorem PV_snoc {c : Nat} {ps : List (Nat × Nat)} (hv : M.PV c ps) {p : Nat × Nat} (hp : M.has c ps.length p.1) (hb : p.2 < c) : M.PV c (ps ++ [p]) := by
  refine ⟨?_, ?_⟩
  · intro i h
    have h2 := h
    rw [List.length_append, List.length_singleton] at h2
    rcases Nat.lt_or_ge i ps.length with h3 | h3
    · rw [List.getElem_append_left h3]; exact hv.pre i h3
    · obtain rfl : i = ps.length := by omega
      simpa using hp
  · intro i h
    have h2 := h
    rw [List.length_append, List.length_singleton] at h2
    rcases Nat.lt_or_ge i ps.length with h3 | h3
    · rw [List.getElem_append_left h3]; exact hv.byt i h3
    · obtain rfl : i = ps.length := by omega
      simpa using hb
theorem TV.add {k : M.Kn} (hk : TV k) {pre byt : Nat} (hp : M.has k.s.c k.ps.length pre) (hb : byt < k.s.c) (hn : k.nxt ≤ k.s.l) : TV (addP k (pre, byt)) := by
  refine ⟨hk.s, PV_snoc hk.pv (p := (pre, byt)) hp hb, ?_⟩
  have : (addP k (pre, byt)).nxt = k.nxt + 1 := by unfold M.Kn.nxt addP; simp; omega
  rw [this]; show _ ≤ k.s.l + 1; omega
section
variable (k : M.Kn) (hk : TV k) (w : FW) (W : World) (g : Nat) (A0 : Option Addr) (c0 : Nat) (An : Option Addr) (cn : Nat) (Ai : Option Addr) (ci : Nat) (hT : TB w W g k A0 c0 An cn Ai ci)
include hk hT
theorem v_learn_impl (pre byt : Nat) (hp : M.has k.s.c k.ps.length pre) (hb : byt < k.s.c) (hn : k.nxt ≤ k.s.l) :
    Calls Tryz.prog 98 #[.pointer (some ⟨g, 0, none⟩), .agg #[.int .i64 pre, .int .i64 byt]] W fun e W' => e = .returned (.tuple #[]) ∧ ∃ A0 c0 An cn Ai ci, TB w W' g (addP k (pre, byt)) A0 c0 An cn Ai ci := by
  have hc256 := hk.s.c256
  have hk2 := hk.add hp hb hn
  obtain ⟨hq, hw⟩ := M.nodeI_spec hk.pv hc256 hp
  have hpv2 : M.PV k.s.c (k.ps ++ [(pre, byt)]) := hk2.pv
  obtain ⟨l1, l2⟩ := M.learn_nd hk.pv hc256 (pre, byt) hpv2 hq hw
  have hid := M.idxs_snoc hk.pv hc256 (pre, byt) hpv2
  dsimp only at l1 l2 hid
  rw [← hw] at hid
  have H2 : M.LOk k.s.c (k.ps ++ [(pre, byt)]) (k.ps ++ [(pre, byt)]).length (M.LL k.s.c (k.ps ++ [(pre, byt)])) := M.LL_ok _ _ hpv2 hc256
  by_cases hin : M.inL (kL k) (((kL k)[M.nodeI k.s.c k.ps pre]'hq).1 ++ [UInt8.ofNat byt])
  · obtain ⟨q2, hq2, he⟩ := hin
    have hLL := l1 ⟨q2, hq2, he⟩
    refine (v_learn_yes k hk w W g A0 c0 An cn Ai ci hT pre byt hp hb hn _ hq rfl q2 hq2 he).mono ?_
    rintro e W' ⟨rfl, A0', c0', An', cn', Ai', ci', hT'⟩
    refine ⟨rfl, A0', c0', An', cn', Ai', ci', ?_⟩
    have e1 : kL (addP k (pre, byt)) = kL k := hLL
    have e2 : M.idxs k.s.c (k.ps ++ [(pre, byt)]) = M.idxs k.s.c k.ps ++ [q2] := by
      rw [hid, hLL]
      have H : M.LOk k.s.c k.ps k.ps.length (kL k) := M.LL_ok k.s.c k.ps hk.pv hk.s.c256
      have := H.inL_pos hq2 he
      unfold kL at this
      congr 2
    show TG w W' g k.s (k.ps ++ [(pre, byt)]) k.base k.last (M.nodesOf (kL (addP k (pre, byt)))) (M.idxs k.s.c (k.ps ++ [(pre, byt)])) A0' c0' An' cn' Ai' ci'
    rw [e1, e2]; exact hT'
  · obtain ⟨m1, m2, m3, m4, m5⟩ := l2 hin
    refine (v_learn_no k hk w W g A0 c0 An cn Ai ci hT pre byt hp hb hn _ hq rfl hin).mono ?_
    rintro e W' ⟨rfl, A0', c0', An', cn', Ai', ci', hT'⟩
    refine ⟨rfl, A0', c0', An', cn', Ai', ci', ?_⟩
    have e2 : M.idxs k.s.c (k.ps ++ [(pre, byt)]) = M.idxs k.s.c k.ps ++ [(kL k).length] := by
      rw [hid, m2]; rfl
    have e1 : M.nodesOf (kL (addP k (pre, byt))) = (M.nodesOf (kL k) ++ [({ par := M.nodeI k.s.c k.ps pre, child := -1, next := (M.nd (kL k) (M.nodeI k.s.c k.ps pre)).child, last := byt, first := (M.nd (kL k) (M.nodeI k.s.c k.ps pre)).first, code := k.nxt } : M.Nd)]).set (M.nodeI k.s.c k.ps pre) { M.nd (kL k) (M.nodeI k.s.c k.ps pre) with child := ((kL k).length : Int) } := by
      have hlen : (kL (addP k (pre, byt))).length = (kL k).length + 1 := m1
      apply List.ext_getElem?
      intro i
      rcases Nat.lt_or_ge i (kL (addP k (pre, byt))).length with hi | hi
      · rw [M.nodesOf_get _ i hi]
        rw [List.getElem?_set]
        by_cases e1 : M.nodeI k.s.c k.ps pre = i
        · rw [if_pos e1, if_pos (by rw [List.length_append, M.nodesOf_length]; simp; omega), ← e1]
          congr 1
        · rw [if_neg e1]
          rcases Nat.lt_or_ge i (kL k).length with h3 | h3
          · rw [List.getElem?_append_left (by rw [M.nodesOf_length]; exact h3), M.nodesOf_get _ i h3]
            congr 1
            exact m3 i h3 (fun e => e1 e.symm)
          · have h4 : i = (kL k).length := by omega
            rw [List.getElem?_append_right (by rw [M.nodesOf_length]; exact h3), M.nodesOf_length, h4, Nat.sub_self]
            simp only [List.getElem?_cons_zero]
            congr 1
            refine m5.trans ?_
            have hb8 : (UInt8.ofNat byt).toNat = byt := by rw [UInt8.toNat_ofNat']; omega
            simp only [hb8]
            rfl
      · rw [List.getElem?_eq_none (by rw [M.nodesOf_length]; exact hi), List.getElem?_eq_none (by rw [List.length_set, List.length_append, M.nodesOf_length]; simp; omega)]
    show TG w W' g k.s (k.ps ++ [(pre, byt)]) k.base k.last (M.nodesOf (kL (addP k (pre, byt)))) (M.idxs k.s.c (k.ps ++ [(pre, byt)])) A0' c0' An' cn' Ai' ci'
    rw [e1, e2]; exact hT'
end
end Go.Proofs.YtlaijbkonapdbaaGreat

namespace Go.Proofs.YtlaijbkonapdbaaGreat
open Go.RowKit
attribute [local go_sem] grow_cell grow_frozen conv_one

theorem own_cut {w : World} {base : Nat} {e : TypeId} {size n m c : Nat} {A : Option Addr} {xs : List Value} (h : w.ownsRow base e size (.slice A n c) n xs) (hm : m ≤ n) : w.ownsRow base e size (.slice A m c) m (xs.take (m * size)) := by
  refine ⟨by rw [List.length_take, h.1, Nat.min_eq_left (Nat.mul_le_mul_right _ hm)], ?_⟩
  rcases h.2 with ⟨hv, h0⟩ | ⟨g, cap, cur, hv, hb, hh, h1, h2, h3, h4⟩
  · left
    injection hv with a1 a2 a3
    subst a1 a3
    have : m = 0 := by omega
    subst this; exact ⟨rfl, rfl⟩
  · right
    injection hv with a1 a2 a3
    subst a1 a3
    refine ⟨g, c, cur, rfl, hb, hh, by omega, h2, h3, ?_⟩
    rw [← h4, List.take_take, Nat.min_eq_left (Nat.mul_le_mul_right _ hm)]
section
variable {w : FW} {W W2 : World} {g : Nat} {s : M.St} {ps : List (Nat × Nat)} {base : Nat} {last : Int} {N : List M.Nd} {I : List Nat} {A0 An Ai : Option Addr} {c0 cn ci : Nat}
theorem TG.cut6 (h : TG w W g s ps base last N I A0 c0 An cn Ai ci) (n : Nat) (hn : n ≤ N.length) : TG w (W.setCell ⟨g, 6, none⟩ (.slice An n cn)) g s ps base last (N.take n) I A0 c0 An cn Ai ci := by
  have hl : (N.take n).length = n := by rw [List.length_take]; omega
  have ho := own_cut h.on hn
  rw [cN_take] at ho
  refine ⟨?_, ownsRow_setCell_other h.op (own_above h.op) _, ?_, ownsRow_setCell_other h.oi (own_above h.oi) _, h.d1, h.d2, h.gb, G.setCell h.fr h.gb _, h.pr.set g _ _ h.pr.pg⟩
  · rw [heap_setCell_same W g 6 _ _ _ h.row, hl]; rfl
  · rw [hl]; exact ownsRow_setCell_other ho (own_above ho) _
theorem cI_take (l : List Nat) (n : Nat) : (cI l).take (n * 1) = cI (l.take n) := by rw [Nat.mul_one]; simp [cI, List.map_take]
theorem TG.cut7 (h : TG w W g s ps base last N I A0 c0 An cn Ai ci) (n : Nat) (hn : n ≤ I.length) : TG w (W.setCell ⟨g, 7, none⟩ (.slice Ai n ci)) g s ps base last N (I.take n) A0 c0 An cn Ai ci := by
  have hl : (I.take n).length = n := by rw [List.length_take]; omega
  have ho := own_cut h.oi hn
  rw [cI_take] at ho
  refine ⟨?_, ownsRow_setCell_other h.op (own_above h.op) _, ownsRow_setCell_other h.on (own_above h.on) _, ?_, h.d1, h.d2, h.gb, G.setCell h.fr h.gb _, h.pr.set g _ _ h.pr.pg⟩
  · rw [heap_setCell_same W g 7 _ _ _ h.row, hl]; rfl
  · rw [hl]; exact ownsRow_setCell_other ho (own_above ho) _
theorem TG.cut3 (h : TG w W g s ps base last N I A0 c0 An cn Ai ci) (n : Nat) (hn : n ≤ ps.length) : TG w (W.setCell ⟨g, 3, none⟩ (.slice A0 n c0)) g s (ps.take n) base last N I A0 c0 An cn Ai ci := by
  have hl : (ps.take n).length = n := by rw [List.length_take]; omega
  have ho := own_cut h.op hn
  rw [cP_take] at ho
  refine ⟨?_, ?_, ownsRow_setCell_other h.on (own_above h.on) _, ownsRow_setCell_other h.oi (own_above h.oi) _, h.d1, h.d2, h.gb, G.setCell h.fr h.gb _, h.pr.set g _ _ h.pr.pg⟩
  · rw [heap_setCell_same W g 3 _ _ _ h.row, hl]; rfl
  · rw [hl]; exact ownsRow_setCell_other ho (own_above ho) _
end
theorem frozen_of_own {w : World} {base : Nat} {e : TypeId} {size n c gn : Nat} {xs : List Value} (h : w.ownsRow base e size (.slice (some ⟨gn, 0, none⟩) n c) n xs) (o : Nat) : w.frozen? ⟨gn, o, none⟩ = false := h.frozenAt o
theorem heldF {W : World} {g gn m p L cn : Nat} {v nx : Value} {par : Value} (hp : p < m) (hg : gn ≠ g) (h : g < W.heap.size ∧ gn < W.heap.size ∧ W.cell? ⟨g, 6, none⟩ = some (.slice (some ⟨gn, 0, none⟩) L cn) ∧ W.cell? ⟨gn, m * 6, none⟩ = some par ∧ W.cell? ⟨gn, m * 6 + 2, none⟩ = some nx) :
    g < (W.setCell ⟨gn, p * 6 + 1, none⟩ v).heap.size ∧ gn < (W.setCell ⟨gn, p * 6 + 1, none⟩ v).heap.size ∧ (W.setCell ⟨gn, p * 6 + 1, none⟩ v).cell? ⟨g, 6, none⟩ = some (.slice (some ⟨gn, 0, none⟩) L cn) ∧ (W.setCell ⟨gn, p * 6 + 1, none⟩ v).cell? ⟨gn, m * 6, none⟩ = some par ∧ (W.setCell ⟨gn, p * 6 + 1, none⟩ v).cell? ⟨gn, m * 6 + 2, none⟩ = some nx := by
  obtain ⟨a, b, c, d, e⟩ := h
  refine ⟨by simpa using a, by simpa using b, ?_, ?_, ?_⟩
  · rw [World.cell?_setCell_other _ _ _ _ (fun x => hg (by injection x))]; exact c
  · rw [World.cell?_setCell_other _ _ _ _ (fun x => by injection x; omega)]; exact d
  · rw [World.cell?_setCell_other _ _ _ _ (fun x => by injection x; omega)]; exact e
/-- the pairs behind the base are gone -/
def cutK (k : M.Kn) : M.Kn := { k with ps := k.ps.take k.base }
section
variable (k : M.Kn) (hk : TV k) (hbase : k.base ≤ k.ps.length) (w : FW) (W : World) (g : Nat) (A0 : Option Addr) (c0 : Nat) (An : Option Addr) (cn : Nat) (Ai : Option Addr) (ci : Nat) (hT : TB w W g k A0 c0 An cn Ai ci)
include hk hT hbase
set_option maxRecDepth 8000 in
set_option maxHeartbeats 4000000 in
theorem v_forget : Calls Tryz.prog 99 #[.pointer (some ⟨g, 0, none⟩)] W fun e W' => e = .returned (.tuple #[]) ∧ ∃ A0 c0 An cn Ai ci, TB w W' g (cutK k) A0 c0 An cn Ai ci := by
  have hc256 := hk.s.c256
  have hc2 := hk.s.c2
  have hlt := hT.lt
  have hkl := kL_len k hk w W g A0 c0 An cn Ai ci hT
  have hps : k.ps.length ≤ 1024 := by have h1 := hk.nx; have := hk.s.l1024; unfold M.Kn.nxt at h1; omega
  have he : k.s.e = k.s.c + 1 := M.St.e_eq _
  have hbp : k.base ≤ 1024 := by omega
  obtain ⟨n0, hn0⟩ : ∃ n0, (M.LL k.s.c (k.ps.take k.base)).length = n0 := ⟨_, rfl⟩
  have hn0c : k.s.c ≤ n0 := by rw [← hn0]; exact (M.LL_ok k.s.c _ (hk.pv.take k.base) hc256).clen
  obtain ⟨r, hr⟩ := M.LL_prefix (c := k.s.c) (ps := k.ps) k.base hbase
  have hn0l : n0 ≤ (kL k).length := by unfold kL; rw [hr, List.length_append, hn0]; omega
  have hLtake : (kL k).take n0 = kL (cutK k) := by
    show (M.LL k.s.c k.ps).take n0 = M.LL k.s.c (k.ps.take k.base)
    rw [hr, ← hn0, List.take_left]
  have HK : Hid (∀ i (hi : i < (kL k).length), k.s.c + 2 + k.base ≤ ((kL k)[i]).2 ↔ n0 ≤ i) := fun i hi => by
    have := M.kept_iff hk.pv hc256 k.base hbase i hi
    rw [hn0] at this; exact this
  obtain ⟨L, hL⟩ : ∃ L, L = (kL k).length := ⟨_, rfl⟩
  have HPop : Hid (∀ n, k.s.c ≤ n → n < (kL k).length → ∃ p, p < n ∧ (M.nd ((kL k).take (n + 1)) n).par = p ∧
      M.nd ((kL k).take n) p = { M.nd ((kL k).take (n + 1)) p with child := (M.nd ((kL k).take (n + 1)) n).next } ∧
      (∀ i, i < n → i ≠ p → M.nd ((kL k).take n) i = M.nd ((kL k).take (n + 1)) i) ∧ (M.nd ((kL k).take (n + 1)) n).code = ((kL k)[n]?.getD ([], 0)).2) := fun n h1 h2 => by
    obtain ⟨p, a1, a2, a3, a4, a5⟩ := M.pop_nd hk.pv hc256 n h1 h2
    refine ⟨p, a1, a2, a3, a4, ?_⟩
    rw [show (kL k)[n]? = some ((kL k)[n]) from List.getElem?_eq_getElem h2]
    exact a5
  obtain ⟨I, HI⟩ : ∃ I, Hid (M.idxs k.s.c k.ps = I) := ⟨_, rfl⟩
  have hIl : I.length = k.ps.length := by rw [← HI.out, M.idxs_length]
  have HIL := Lib.hid hIl
  have hT0 : TG w W g k.s k.ps k.base k.last (M.nodesOf (kL k)) I A0 c0 An cn Ai ci := by rw [← HI.out]; exact hT
  have hLn : L ≤ 2048 := by omega
  have hLc : k.s.c ≤ L := by omega
  have hn0L : n0 ≤ L := by omega
  have HL := Lib.hid hL
  have HN0 := Lib.hid hn0
  have HLT := Lib.hid hLtake
  have HT := Lib.hid hT
  have HE := Lib.hid he
  have he1 : k.s.e ≤ 257 := by omega
  obtain ⟨q0, q1, q2, q3, q4, q5, q6, q7⟩ := hT0.cells
  rw [M.nodesOf_length, ← HL.out] at q6
  clear hT he hr hLtake hn0 hL hIl hn0l hkl
  go_enter Tryz.func99, Tryz.ntmps99
  go_wp2_with (first | (go_at_call 78; refine (v_EndCode k.s hk.s _).mono ?_; rintro e w' ⟨rfl, h1⟩; obtain ⟨hch1, hfh1⟩ := gcell h1; have hT1 := hT0.up h1; have hf1 := hT1.fz; have hl1 := hT1.lt) | fail)
  obtain ⟨gn, hAn, hgn, -⟩ := (Rds.own hT0.on).at_ (by rw [M.nodesOf_length, ← HL.out]; omega)
  subst hAn
  have hgng : g + 1 ≤ gn := own_base hT0.on rfl
  have HPS : Hid (k.base ≤ k.ps.length) := hbase
  have hT1' : TG w w' g k.s k.ps k.base k.last (M.nodesOf (kL k)) I A0 c0 (some ⟨gn, 0, none⟩) cn Ai ci := hT1
  clear hch1 hfh1 q0 q1 q2 q3 q4 q5 q6 q7 hT1 hf1 hl1 h1 hT0 hgn hbase
  go_loopw [4] (fun x wr => ∃ (n : Nat) (N : List M.Nd), x = .int .i64 n ∧ n0 ≤ n ∧ n ≤ L ∧ N.length = L ∧ Hid (N.take n = M.nodesOf ((kL k).take n)) ∧ TG w wr g k.s k.ps k.base k.last N I A0 c0 (some ⟨gn, 0, none⟩) cn Ai ci) (fun x _ => (intOf x).toNat)
  case atStart =>
    refine ⟨L, _, rfl, hn0L, Nat.le_refl _, by rw [M.nodesOf_length, HL.out], ?_, hT1'⟩
    show _ = _
    rw [List.take_of_length_le (by rw [M.nodesOf_length, HL.out]; exact Nat.le_refl _), List.take_of_length_le (by rw [HL.out]; exact Nat.le_refl _)]
  case round =>
    obtain ⟨n, N, rfl, hnn, hnL, hNL, HNT, hTr⟩ := hrel
    obtain ⟨m, rfl⟩ : ∃ m, n = m + 1 := ⟨n - 1, by omega⟩
    have hlr := hTr.lt
    obtain ⟨q0, q1, q2, q3, q4, q5, q6, q7⟩ := hTr.cells
    rw [hNL] at q6
    have hmL : m < (kL k).length := by have := HL.out; omega
    have hget : ∀ i, i ≤ m → N[i]? = some (M.nd ((kL k).take (m + 1)) i) := by
      intro i hi
      have h9 : (N.take (m + 1))[i]? = some (M.nd ((kL k).take (m + 1)) i) := by
        rw [HNT.out]; exact M.nodesOf_get _ i (by rw [List.length_take]; omega)
      rw [List.getElem?_take] at h9
      simpa [show i < m + 1 by omega] using h9
    obtain ⟨gn', hAn', hgn2, hcell⟩ := (Rds.own hTr.on).at_ (by omega)
    obtain rfl : gn' = gn := by injection hAn' with e; injection e with e; exact e.symm
    obtain ⟨d0, d1, d2, d3, d4, d5⟩ := cN_get N m _ (hget m (Nat.le_refl _))
    have e0 := hcell _ _ d0
    have e2 := hcell _ _ d2
    have e5 := hcell _ _ d5
    have hcode : (M.nd ((kL k).take (m + 1)) m).code = ((kL k)[m]).2 := by
      simp [M.nd, List.getD_eq_getElem?_getD, hmL]
    have hkept := HK.out m hmL
    rw [← hcode] at hkept
    by_cases hlast : n0 ≤ m
    · have hcn : k.s.c ≤ m := by omega
      obtain ⟨p, hpm, hpar, hp1, hp2, -⟩ := HPop.out m hcn hmL
      rw [hpar] at e0
      have hpx := hget p (by omega)
      obtain ⟨_, dp1, _, _, _, _⟩ := cN_get N p _ hpx
      have ep1 := hcell _ _ dp1
      have hset := hTr.setChild hpx (M.nd ((kL k).take (m + 1)) m).next
      have HPX := Lib.hid hpx
      have HP1 := Lib.hid hp1
      have HP2 := Lib.hid hp2
      have HGET := Lib.hid hget
      have hfr := fun o => frozen_of_own hTr.on o
      generalize (M.nd ((kL k).take (m + 1)) m).next = nx at *
      generalize (M.nd ((kL k).take (m + 1)) m).code = cd at *
      generalize (M.nd ((kL k).take (m + 1)) p).child = chp at ep1
      have hge : (k.s.e : Int) + 1 + k.base ≤ cd := by have := HE.out; omega
      clear d0 d1 d2 d3 d4 d5 hcell hpar hcode dp1 hp1 hp2 hget hpx hkept
      have hml : m < N.length := by omega
      go_wp2
      have hmL2 : m < L := by omega
      have hpL2 : p < L := by omega
      go_region_law (fail)
      all_goals
        go_wp2
        refine ⟨⟨m, _, rfl, hlast, by omega, by rw [List.length_set]; exact hNL, ?_, hset.up (by repeat' (first | (with_reducible exact G.refl _) | (with_reducible assumption) | (with_reducible refine G.alloc ?_ _) | (with_reducible refine G.drew ?_) | (with_reducible refine G.drewN ?_ _) | (refine G.setCell ?_ (by first | (simp <;> done) | (simp <;> omega)) _) | (with_reducible refine G.trans ?_ (by with_reducible assumption))))⟩, by simp [intOf]⟩
        show _ = _
        apply List.ext_getElem?
        intro i
        rcases Nat.lt_or_ge i m with hi | hi
        · rw [List.getElem?_take, if_pos hi, List.getElem?_set, M.nodesOf_get _ i (by rw [List.length_take]; omega)]
          by_cases e : p = i
          · subst e
            rw [if_pos rfl, if_pos (by omega), HP1.out]
          · rw [if_neg e, HGET.out i (by omega), HP2.out i hi (fun h => e h.symm)]
        · rw [List.getElem?_eq_none (by rw [List.length_take]; omega), List.getElem?_eq_none (by rw [M.nodesOf_length, List.length_take]; omega)]
    · generalize (M.nd ((kL k).take (m + 1)) m).code = cd at *
      have hge : (cd : Int) < (k.s.e : Int) + 1 + k.base := by have := HE.out; omega
      have hmn : m + 1 = n0 := by omega
      have hcap6 := own_cap hTr.on
      have hcap7 := own_cap hTr.oi
      have hcap3 := own_cap hTr.op
      have HIL2 := HIL.out
      have hbi : k.base ≤ k.ps.length := HPS.out
      have hml : m + 1 ≤ N.length := by omega
      have hfin := ((hTr.cut6 (m + 1) hml).cut7 k.base (by omega)).cut3 k.base hbi
      have HMN := Lib.hid hmn
      have HNL := Lib.hid hNL
      have hI2 : k.base ≤ I.length := by omega
      have hcp6 : m + 1 ≤ cn := by omega
      have hcp7 : k.base ≤ ci := by omega
      have hcp3 : k.base ≤ c0 := by omega
      clear d0 d1 d2 d3 d4 d5 hcell hcode hget hkept hmn hNL HIL2
      have hfr8 := hTr.fz
      go_wp2
      go_end0
      refine ⟨rfl, A0, c0, some ⟨gn', 0, none⟩, cn, Ai, ci, ?_⟩
      have e1 : N.take (m + 1) = M.nodesOf (kL (cutK k)) := by rw [HNT.out, HMN.out, HLT.out]
      have e2 : I.take k.base = M.idxs k.s.c (k.ps.take k.base) := by rw [← HI.out, M.idxs_take hk.pv hc256 k.base hbi]
      rw [e1, e2] at hfin
      exact hfin
end
end Go.Proofs.YtlaijbkonapdbaaGreat
