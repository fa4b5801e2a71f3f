/-
  FnExactAppendDataSaid is proved: for every input FnExactAppendData returns true, and each argument reads afterwards as it read before; no conditions. Part 5 of 25.
-/
import Derived.Test.YtlaijbkonapdbaaGreatA04
import Derived.Deep.AppendSrc
import Derived.Deep.DeepCutAuto

set_option linter.all false

namespace Go.Proofs.YtlaijbkonapdbaaGreat
open Go.RowKit
attribute [local go_sem] grow_cell grow_frozen conv_one
open Go.PlainAid (bt get_bt bt_nonneg bt_le)

section
variable {ops : Array Oper} {rest : List Oper} {o : Oper} {a : Act} {Q : Exit → Act → World → Prop} {w : World}
theorem mk_u8 (hg : o.guard = none) (l c : Operand) (hop : o.op = Op.makeSlice 60 l c) (base : Nat) (kl kc : IntKind) (C : Int) (n : Nat) (hl : a.eval l = .int kl 0) (hc : a.eval c = .int kc C) (hC : C = (n : Int))
    (hn : n ≤ 100000000) (b4 : base ≤ w.heap.size)
    (hK : ∀ w', w'.ownsRow base 5 1 (.slice (some ⟨w.heap.size, 0, none⟩) 0 n) 0 [] → w.grownBy w' none → wpList Tryz.prog ops Q rest (a.put o.dst (.slice (some ⟨w.heap.size, 0, none⟩) 0 n)) w') :
    wpList Tryz.prog ops Q (o :: rest) a w := by
  obtain ⟨i0, hi, hz0, hz1, hz2⟩ := info_parts u8_info
  exact wpList_make_own w hg l c _ hop base _ i0 _ 1 Tryz.underlying60 hi hz0 hz1 kl kc C n hl hc hC (by rw [hz2]; omega) (by simp only [maxLen]; omega) b4 hK
theorem mk_u8_full (hg : o.guard = none) (l c : Operand) (hop : o.op = Op.makeSlice 60 l c) (base : Nat) (kl kc : IntKind) (L C : Int) (n : Nat) (hl : a.eval l = .int kl L) (hc : a.eval c = .int kc C) (hL : L = (n : Int)) (hC : C = (n : Int))
    (hn : n ≤ 100000000) (b4 : base ≤ w.heap.size)
    (hK : ∀ w', w'.ownsRow base 5 1 (.slice (some ⟨w.heap.size, 0, none⟩) n n) n (cB (List.replicate n 0)) → w.grownBy w' none → wpList Tryz.prog ops Q rest (a.put o.dst (.slice (some ⟨w.heap.size, 0, none⟩) n n)) w') :
    wpList Tryz.prog ops Q (o :: rest) a w := by
  obtain ⟨i0, hi, hz0, hz1, hz2⟩ := info_parts u8_info
  refine wpList_make_full w hg l c _ hop base _ i0 _ 1 Tryz.underlying60 hi hz0 hz1 kl kc L C n hl hc hL hC (by rw [hz2]; omega) (by simp only [maxLen]; omega) b4 fun w' h1 h2 => hK w' ?_ h2
  have e : (madeCells (Value.int .u8 0).cells (n * 1)).toList = cB (List.replicate n 0) := by
    simp only [madeCells, Value.cells, cB, Nat.mul_one, List.map_replicate]
    rw [List.eq_replicate_iff]
    constructor
    · simp
    · intro x hx; simp at hx; obtain ⟨y, _, rfl⟩ := hx; simp [Nat.mod_one]
  rw [← e]; exact h1
end

set_option maxHeartbeats 1000000 in
theorem v_unpackBytes (o : Nat) (ho : o ≤ 1) (b : ByteArray) (hb : b.size ≤ 8000) (w : World) :
    Calls Tryz.prog 110 #[.int .i64 o, .string b] w fun e w' => e = .returned (S ((M.unpackB o (bs b)).map M.bch)) ∧ G w w' := by
  have hget := get_bt b
  go_enter Tryz.func110, Tryz.ntmps110
  go_wp2_with (at_make; refine mk_u8 rfl _ _ rfl w.heap.size _ _ _ (8 * b.size) rfl rfl (by omega) (by omega) (by simp) ?_; intro w1 hown1 hg1)
  go_loopw [5, 13] (fun v i wr => ∃ (m : Nat), i = .int .i64 m ∧ m ≤ b.size ∧ wr.ownsRow w.heap.size 5 1 v ((M.unpackB o ((bs b).take m)).map M.bch).length (cB ((M.unpackB o ((bs b).take m)).map M.bch)) ∧ GR w wr none ∧ VR w none v) (fun _ i _ => b.size - (intOf i).toNat)
  case atStart => exact ⟨0, rfl, by omega, by simpa [M.unpackB, cB] using hown1, hg1, fun g hg => by simp [Value.ownBlock] at hg; right; omega⟩
  case round =>
    obtain ⟨m, rfl, hm, hown, hG, hV⟩ := hrel
    have hsz := hG.size
    by_cases hlt : m < b.size
    · have hl : m < (bs b).length := by rw [← bs_size]; exact hlt
      have hbt := bt_bs (b := b) rfl m ((bs b)[m]) (List.getElem?_eq_getElem hl)
      generalize hx : (bs b)[m] = x at hbt
      have hx8 : x.toNat < 256 := UInt8.toNat_lt x
      have hlen : ((M.unpackB o ((bs b).take m)).map M.bch).length ≤ 64000 := by simp; omega
      have HX := Lib.hid hx
      have HO := Lib.hid hown
      clear hx hown hown1
      go_wp2_with (go_at_call 106; refine (v_appendBits o _ 8 ho (by omega) (by omega) w.heap.size _ _ (by omega) _ HO.out hsz).mono ?_; rintro e w' ⟨v', rfl, hown2, hG2, hV2⟩)
      go_roundw
      case rel =>
        refine ⟨m + 1, by go_num, by omega, ?_, hG.step hV hG2, hV.trans hsz hV2⟩
        have e : (M.unpackB o ((bs b).take (m + 1))).map M.bch = (M.unpackB o ((bs b).take m)).map M.bch ++ (M.bitsO o x.toNat 8).map M.bch := by
          rw [List.take_add_one, List.getElem?_eq_getElem hl, HX.out, M.unpackB_append, List.map_append]; simp [M.unpackB]
        rw [e]; exact hown2
      case measure => simp [intOf]; omega
    · have e : (bs b).take m = bs b := List.take_of_length_le (by rw [← bs_size]; omega)
      rw [e] at hown
      generalize hL : (M.unpackB o (bs b)).map M.bch = L at hown
      have HL := Lib.hid hL
      generalize L.length = N at hown
      obtain ⟨A, c, rfl⟩ := own_form hown
      have hconv := conv_own _ _ _ _ _ _ hown
      clear hown hown1 e hL
      go_wp2
      go_ret
      rw [HL.out]
      exact ⟨rfl, hG.toG⟩

theorem v_PackBits (o : Nat) (ho : o ≤ 1) (l : List Bool) (hl : l.length ≤ 32000) (b : ByteArray) (hb : bs b = l.map M.bch) (w : World) :
    Calls Tryz.prog 107 #[.int .i64 o, .string b] w fun e w' => e = .returned (.tuple #[S (M.packB o l), .bool true]) ∧ G w w' := by
  have HO : Hid (decide ((o : Int) = 0 ∨ (o : Int) = 1) = true) := by unfold Hid; simp; omega
  have HB := Lib.hid hb
  clear hb
  go_enter Tryz.func107, Tryz.ntmps107
  go_wp2_with (first | (go_at_call 76; refine (c_orderValid_b _ true HO.out _).mono ?_; rintro e w' ⟨rfl, rfl⟩) | (go_at_call 126; refine (v_BitsValid l hl b HB.out _).mono ?_; rintro e w' ⟨rfl, rfl⟩) | (go_at_call 127; refine (v_packBytes o ho l hl b HB.out _).mono ?_; rintro e w' ⟨rfl, h1⟩; obtain ⟨hch1, hfh1⟩ := gcell h1; try (have hzh1 : w.heap.size < w'.heap.size := by have := h1.size; (try simp at this); omega); try (have hyh1 : w.heap.size + 1 < w'.heap.size := by have := h1.size; (try simp at this); omega)))
  go_ret2
  exact ⟨rfl, (by repeat' (first | (with_reducible exact G.refl _) | (with_reducible assumption) | (with_reducible refine G.alloc ?_ _) | (with_reducible refine G.drew ?_) | (with_reducible refine G.drewN ?_ _) | (refine G.setCell ?_ (by first | (simp <;> done) | (simp <;> omega)) _) | (with_reducible refine G.trans ?_ (by with_reducible assumption))))⟩

/-- n times the same byte -/
theorem many_odd (m r : Nat) (h : m % 2 = 1) : m * r = (m / 2) * (r + r) + r := by
  obtain ⟨k, hk⟩ : ∃ k, m = 2 * k + 1 := ⟨m / 2, by omega⟩
  subst hk
  rw [show (2 * k + 1) / 2 = k by omega, Nat.add_mul, Nat.mul_assoc, Nat.mul_add, Nat.two_mul]; omega
theorem many_even (m r : Nat) (h : m % 2 = 0) : m * r = (m / 2) * (r + r) := by
  obtain ⟨k, hk⟩ : ∃ k, m = 2 * k := ⟨m / 2, by omega⟩
  subst hk
  rw [show (2 * k) / 2 = k by omega, Nat.mul_assoc, Nat.mul_add, Nat.two_mul]

set_option maxHeartbeats 1000000 in
theorem v_l9Many (c : UInt8) (b : ByteArray) (hb : bs b = [c]) (n : Nat) (hn : n ≤ 5000) (w : World) :
    Calls Tryz.prog 133 #[.string b, .int .i64 n] w fun e w' => e = .returned (S (List.replicate n c)) ∧ w = w' := by
  have hb1 : b.size ≤ 1 := by rw [bs_size, hb]; simp
  have HB := Lib.hid hb
  clear hb
  go_enter Tryz.func133, Tryz.ntmps133
  go_wp2
  go_loop [0, 1, 5] (fun s i out => ∃ (m r q : Nat) (x y : ByteArray), i = .int .i64 m ∧ s = .string x ∧ out = .string y ∧ m ≤ n ∧ Hid (bs x = List.replicate r c) ∧ Hid (bs y = List.replicate q c) ∧ Hid (q + m * r = n) ∧ r ≤ 2 * n + 1 ∧ x.size ≤ 2 * n + 1 ∧ y.size ≤ n ∧ Hid (1 ≤ m → r ≤ n)) (fun _ i _ => (intOf i).toNat)
  case atStart => exact ⟨n, 1, 0, _, _, rfl, rfl, rfl, by omega, HB.out, rfl, by simp [Hid], by omega, by omega, by show 0 ≤ n; omega, fun h => h⟩
  case round =>
    obtain ⟨m, r, q, x, y, rfl, rfl, rfl, hm, HX, HY, HQ, hr, hx, hy, HR⟩ := hrel
    by_cases h1 : 1 ≤ m
    · have hr2 : r ≤ n := HR.out h1
      have hx2 : x.size ≤ n := by rw [bs_size, HX.out]; simpa using hr2
      have hy2 : x.size + y.size ≤ n := by
        have h5 : r ≤ m * r := Nat.le_mul_of_pos_left _ h1
        have := HQ.out
        rw [bs_size, bs_size, HX.out, HY.out]; simp; omega
      have HM : Hid (m / 2 ≤ m) := by unfold Hid; omega
      have key : Hid (1 ≤ m / 2 → r + r ≤ n) := by
        intro h
        have h5 : r + r ≤ (m / 2) * (r + r) := Nat.le_mul_of_pos_left _ h
        have := HQ.out
        rcases Nat.mod_two_eq_zero_or_one m with h6 | h6
        · have := many_even m r h6; omega
        · have := many_odd m r h6; omega
      rcases Nat.mod_two_eq_zero_or_one m with h6 | h6
      · have H6 := Lib.hid h6
        have e1 : (((m : Int) % 2) == 1) = false := by simp; omega
        clear h6
        go_wp2
        go_round
        case rel =>
          refine ⟨m / 2, r + r, q, _, _, by go_num, rfl, rfl, by omega, ?_, HY, ?_, by omega, ?_, by omega, key⟩
          · show bs _ = _; rw [bs_append, HX.out, List.replicate_append_replicate]
          · show _ = _; have := HQ.out; have := many_even m r H6.out; omega
          · rw [bs_size, bs_append, List.length_append, ← bs_size]; omega
        case measure => simp [intOf]; omega
      · have H6 := Lib.hid h6
        have e1 : (((m : Int) % 2) == 1) = true := by simp; omega
        clear h6
        go_wp2
        go_round
        case rel =>
          refine ⟨m / 2, r + r, q + r, _, _, by go_num, rfl, rfl, by omega, ?_, ?_, ?_, by omega, ?_, ?_, key⟩
          · show bs _ = _; rw [bs_append, HX.out, List.replicate_append_replicate]
          · show bs _ = _; rw [bs_append, HX.out, HY.out, List.replicate_append_replicate]
          · show _ = _; have := HQ.out; have := many_odd m r H6.out; omega
          · rw [bs_size, bs_append, List.length_append, ← bs_size]; omega
          · rw [bs_size, bs_append, List.length_append, ← bs_size, ← bs_size]; omega
        case measure => simp [intOf]; omega
    · go_wp2
      go_ret
      obtain rfl : m = 0 := by omega
      have e : q = n := by have := HQ.out; omega
      exact ⟨congrArg _ (bs_eq (by rw [HY.out, e])), rfl⟩
end Go.Proofs.YtlaijbkonapdbaaGreat

namespace Go.Proofs.YtlaijbkonapdbaaGreat
open Go.RowKit
attribute [local go_sem] grow_cell grow_frozen conv_one
open Go.PlainAid (bt get_bt bt_nonneg bt_le)

def padL (l : List Bool) : List Bool := l ++ List.replicate (M.missing l.length) false
theorem padL_len (l : List Bool) : (padL l).length % 8 = 0 ∧ l.length ≤ (padL l).length ∧ (padL l).length ≤ l.length + 7 := by
  unfold padL M.missing; simp; omega
theorem v_l1Pad (l : List Bool) (hl : l.length ≤ 32000) (b : ByteArray) (hb : bs b = l.map M.bch) (w : World) :
    Calls Tryz.prog 115 #[.string b] w fun e w' => e = .returned (S ((padL l).map M.bch)) ∧ w = w' := by
  have hsz : b.size = l.length := by rw [bs_size, hb, List.length_map]
  have hn1 : b.size ≤ 32000 := by omega
  obtain ⟨n, hn⟩ : ∃ n, M.missing b.size = n := ⟨_, rfl⟩
  have hn8 : n ≤ 7 := by rw [← hn]; unfold M.missing; omega
  have hv : (8 - (b.size : Int) % 8) % 8 = n := by rw [← hn]; unfold M.missing; omega
  have HS := Lib.hid hsz
  have HB := Lib.hid hb
  have HN := Lib.hid hn
  clear hsz hb hn
  go_enter Tryz.func115, Tryz.ntmps115
  go_wp2_with (go_at_call 133; rw [hv]; refine (v_l9Many 48 _ rfl n (by omega) _).mono ?_; rintro e w' ⟨rfl, rfl⟩; unfold S)
  go_ret
  exact ⟨congrArg _ (bs_eq (by rw [bs_append, HB.out, bs_mk, padL, ← HS.out, HN.out, List.map_append]; simp [M.bch])), rfl⟩

set_option maxHeartbeats 1000000 in
theorem v_l1Pack (o : Nat) (ho : o ≤ 1) (l : List Bool) (hl : l.length ≤ 32000) (b : ByteArray) (hb : bs b = l.map M.bch) (w : World) :
    Calls Tryz.prog 95 #[.int .i64 o, .string b] w fun e w' => e = .returned (S (M.packB o l)) ∧ G w w' := by
  obtain ⟨p, hp⟩ : ∃ p, padL l = p := ⟨_, rfl⟩
  obtain ⟨q1, q2, q3⟩ := padL_len l
  rw [hp] at q1 q2 q3
  obtain ⟨n, hn⟩ : ∃ n, p.length = 8 * n := ⟨p.length / 8, by omega⟩
  have hn2 : n ≤ 4001 := by omega
  obtain ⟨x, hx⟩ : ∃ x : ByteArray, bs x = p.map M.bch := ⟨⟨(p.map M.bch).toArray⟩, rfl⟩
  have hxs : x.size = 8 * n := by rw [bs_size, hx, List.length_map, hn]
  have hxS : S (p.map M.bch) = .string x := (bs_eq hx).symm
  have hd : (x.size : Int) / 8 = n := by omega
  have HX := Lib.hid hx
  have HP := Lib.hid hp
  have HN := Lib.hid hn
  have HXS := Lib.hid hxs
  have HQ1 := Lib.hid q1
  have hx1 : x.size ≤ 8 * n := by omega
  have hx2 : 8 * n ≤ x.size := by omega
  clear hx hp hn hxs q1
  go_enter Tryz.func95, Tryz.ntmps95
  go_wp2_with (first
    | (go_at_call 115; refine (v_l1Pad l hl b hb _).mono ?_; rintro e w' ⟨rfl, rfl⟩; rw [HP.out, hxS]; clear hxS)
    | (at_make; refine mk_u8_full rfl _ _ rfl w.heap.size _ _ _ _ n rfl rfl (by omega) (by omega) (by omega) (by simp) ?_; intro w1 hown1 hg1))
  clear hd
  go_loopw [7] (fun i wr => ∃ m : Nat, i = .int .i64 m ∧ m ≤ n ∧ wr.ownsRow w.heap.size 5 1 (.slice (some ⟨w.heap.size, 0, none⟩) n n) n (cB (M.packB o (p.take (8 * m)) ++ List.replicate (n - m) 0)) ∧ GR w wr none) (fun i _ => n - (intOf i).toNat)
  case atStart => exact ⟨0, rfl, by omega, by simpa [M.packB_nil] using hown1, hg1⟩
  case round =>
    obtain ⟨m, rfl, hm, hown, hG⟩ := hrel
    have hsz := hG.size
    have hlenA : (M.packB o (p.take (8 * m))).length = m := by rw [M.packB_length, List.length_take]; have := HN.out; omega
    by_cases hlt : m < n
    · have HE := Lib.hid (M.packB_step o p m (by have := HN.out; omega))
      obtain ⟨y, hy⟩ : ∃ y, (p.drop (8 * m)).take 8 = y := ⟨_, rfl⟩
      have hyl : y.length = 8 := by rw [← hy]; have := HN.out; simp; omega
      have hcell := (hown.cellAt m (by omega)).trans (show (cB (M.packB o (p.take (8 * m)) ++ List.replicate (n - m) 0))[m]? = some (.int .u8 0) by
        simp only [cB, List.map_append, List.map_replicate]
        rw [List.getElem?_append_right (by simp [hlenA])]
        rw [List.length_map, hlenA, Nat.sub_self, List.getElem?_replicate, if_pos (by omega)]; rfl)
      have hfro := hown.frozenAt m
      have hnum : M.numO o y ≤ 255 := by have := M.numO_lt o y; rw [hyl] at this; omega
      have hby : bs (x.extract (8 * m) (8 * m + 8)) = y.map M.bch := by rw [bs_extract, HX.out, ← List.map_drop, ← List.map_take, ← hy]; congr 2; omega
      have HBY := Lib.hid hby
      have HY := Lib.hid hy
      have HO := Lib.hid hown
      have HL := Lib.hid hlenA
      have HYL := Lib.hid hyl
      clear hby hy hown hown1 hlenA hyl
      go_wp2_with (go_at_call 116; refine (v_l1Number o ho y (by have := HYL.out; omega) _ HBY.out _).mono ?_; rintro e w' ⟨rfl, rfl⟩)
      go_roundw
      case rel =>
        obtain ⟨st1, st2⟩ := HO.out.stored m (.int .u8 (M.numO o y))
        refine ⟨m + 1, by go_num, by omega, ?_, hG.step (v := .slice (some ⟨w.heap.size, 0, none⟩) n n) (fun g hg => by simp [Value.ownBlock] at hg; right; omega) st2⟩
        have e := HE.out
        rw [HY.out, show 8 - (p.length - 8 * m) = 0 by have := HN.out; omega, List.replicate_zero, List.append_nil] at e
        have e2 : cB (M.packB o (p.take (8 * (m + 1))) ++ List.replicate (n - (m + 1)) 0) = (cB (M.packB o (p.take (8 * m)) ++ List.replicate (n - m) 0)).set m (.int .u8 (M.numO o y)) := by
          rw [e, show n - m = (n - (m + 1)) + 1 by omega, List.replicate_succ]
          simp only [cB, List.map_append, List.map_cons, List.map_nil]
          rw [List.set_append_right _ _ (by rw [List.length_map, HL.out]; omega), List.length_map, HL.out, Nat.sub_self, List.set_cons_zero, UInt8.toNat_ofNat', Nat.mod_eq_of_lt (by omega)]
          simp
        rw [e2]
        exact st1
      case measure => simp [intOf]; omega
    · have e : p.take (8 * m) = p := List.take_of_length_le (by have := HN.out; omega)
      rw [e, show n - m = 0 by omega, List.replicate_zero, List.append_nil] at hown
      have hconv := conv_own _ _ _ _ _ _ hown
      clear hown hown1 e
      go_wp2
      go_ret
      refine ⟨?_, hG.toG⟩
      have := M.packB_pad o l
      rw [← this, ← HP.out]; rfl
end Go.Proofs.YtlaijbkonapdbaaGreat

namespace Go.Proofs.YtlaijbkonapdbaaGreat
open Go.RowKit

section
variable {P : Program} (w : World)
/-- append where there is room, the source whatever -/
theorem room_src (t tx ty e : TypeId) (i : TypeInfo) (ht : P.underlying t = some (.slice e)) (hi : P.info? e = some i) (g sLen sCap : Nat) (cur : Array Value) (hg : w.heap[g]? = some (.cells cur e (0, 0)))
    (x : Value) (m : Nat) (news : List Value) (hs : Src P i.size tx x m news w) (hroom : sLen + m ≤ sCap) (hfit : sLen * i.size + news.length ≤ cur.size) :
    (Builtin.append_ #[t, tx] ty #[.slice (some ⟨g, 0, none⟩) sLen sCap, x]).run P w =
      .ok (.slice (some ⟨g, 0, none⟩) (sLen + m) sCap) (w.setRow g (cur.toList.take (sLen * i.size) ++ news ++ cur.toList.drop (sLen * i.size + news.length)).toArray) := by
  have hst := run_storeCells_at P g (sLen * i.size) e news 0 cur w hg (by simpa using hfit) hs.one
  simp only [Nat.add_zero] at hst
  rcases hs.kind with ⟨e', hk⟩ | hk <;> simp [Builtin.append_, run_underlying ht, run_underlying hk, sizeOf, typeInfo, hi, hs.len, hroom, hs.cells, Addr.add_lit, hst]

theorem none_src (t tx ty e : TypeId) (i : TypeInfo) (ht : P.underlying t = some (.slice e)) (hi : P.info? e = some i) (x : Value) (hs : Src P i.size tx x 0 [] w) :
    (Builtin.append_ #[t, tx] ty #[.slice none 0 0, x]).run P w = .ok (.slice none 0 0) w := by

  rcases hs.kind with ⟨e', hk⟩ | hk <;> simp [Builtin.append_, run_underlying ht, run_underlying hk, sizeOf, typeInfo, hi, hs.len, hs.cells]

theorem run_append_own_src (base : Nat) (t tx ty e : TypeId) (i : TypeInfo) (z : Value) (size bytes : Nat) (ht : P.underlying t = some (.slice e)) (hi : P.info? e = some i) (hz : i.zero = some z)
    (hsize : i.size = size) (hby : i.bytes = bytes) (hzs : z.cells.size = size) (v : Value) (n : Nat) (xs : List Value) (hown : w.ownsRow base e size v n xs)
    (x : Value) (m : Nat) (news : List Value) (hs : Src P size tx x m news w) (h63 : n + m ≤ maxLen) (hbytes : (n + m) * bytes ≤ 140737488355328) (hbase : base ≤ w.heap.size) :
    ∃ v' w', (Builtin.append_ #[t, tx] ty #[v, x]).run P w = .ok v' w' ∧ w'.ownsRow base e size v' (n + m) (xs ++ news) ∧ w.grownBy w' v.ownBlock ∧ (v'.ownBlock = v.ownBlock ∨ v'.ownBlock = some w.heap.size) := by
  subst hsize hby
  have hl := hs.newsLen
  have hsm : n + m ≤ 9223372036854775807 := by simp only [maxLen] at h63; omega
  have hlen : (xs ++ news).length = (n + m) * i.size := by rw [List.length_append, hown.1, hl, Nat.add_mul]
  -- a new row
  have hnew : ∀ old, old < n + m → (w.drew.alloc (.cells ((xs ++ news).toArray ++ Builtin.zeroCells z.cells (grownCap w (n + m) old e - (n + m))) e)).ownsRow base e i.size
        (.slice (some ⟨w.heap.size, 0, none⟩) (n + m) (grownCap w (n + m) old e)) (n + m) (xs ++ news) ∧
      ∀ row, w.grownBy (w.drew.alloc (.cells ((xs ++ news).toArray ++ Builtin.zeroCells z.cells (grownCap w (n + m) old e - (n + m))) e)) row := by
    intro old ho
    have hge := grownCap_ge w (n + m) old e
    refine ⟨⟨hlen, .inr ⟨w.heap.size, _, _, rfl, hbase, heap_alloc_new w.drew _, hge, grownCap_le_maxLen w (n + m) old e h63, ?_, ?_⟩⟩, fun row => ⟨rfl, rfl, rfl, by simp, fun k hk _ => Below.heap_alloc w.drew _ k hk⟩⟩
    · rw [Array.size_append, List.size_toArray, size_zeroCells, hzs, hlen, ← Nat.add_mul]; congr 1; omega
    · rw [Array.toList_append, ← hlen, List.toList_toArray, List.take_left]
  rcases hown.2 with ⟨rfl, rfl⟩ | ⟨g, cap, cur, rfl, hbg, hg, hnc, hcm, hcs, htake⟩
  · have hx : xs = [] := List.eq_nil_of_length_eq_zero (by simpa using hown.1)
    subst hx
    by_cases hm : m = 0
    · subst hm
      have hn : news = [] := List.eq_nil_of_length_eq_zero (by simpa using hl)
      subst hn
      exact ⟨_, _, none_src w t tx ty e i ht hi x hs, World.ownsRow_nil w base e i.size, ⟨rfl, rfl, rfl, Nat.le_refl _, fun _ _ _ => rfl⟩, Or.inl rfl⟩
    · have hr := run_append_grow_src (P := P) w t tx ty e i z ht hi hz none 0 0 [] (by simp [Builtin.firstCells]) x m news hs (by omega) (by omega) (growslice_fits (by omega) (by simpa using hbytes))
      obtain ⟨a1, a2⟩ := hnew 0 (by omega)
      simp only [Nat.zero_add, List.nil_append] at hr a1 a2 ⊢
      exact ⟨_, _, hr, a1, a2 _, Or.inr rfl⟩
  · by_cases hroom : n + m ≤ cap
    · have hfit : n * i.size + news.length ≤ cur.size := by rw [hl, hcs, ← Nat.add_mul]; exact Nat.mul_le_mul_right _ hroom
      refine ⟨_, _, room_src w t tx ty e i ht hi g n cap cur hg x m news hs hroom hfit, ⟨hlen, .inr ⟨g, cap, _, rfl, hbg, setRow_heap w g cur _ e _ hg, hroom, hcm, ?_, ?_⟩⟩, ⟨rfl, rfl, rfl, by simp, fun k _ hk => setRow_other w g k _ (fun e => hk (by simp [Value.ownBlock, e]))⟩, Or.inl rfl⟩
      · simp only [List.size_toArray, List.length_append, List.length_take, List.length_drop, Array.length_toList]; omega
      · rw [List.toList_toArray, htake, ← hlen, List.take_left]
    · have hold : (Builtin.firstCells i.size n (.slice (some ⟨g, 0, none⟩) n cap)).run P w.drew = .ok xs.toArray w.drew :=
        run_firstCells_some w.drew i.size n ⟨g, 0, none⟩ n cap xs hown.1 (by simpa using hown.cells (g := g) rfl)
      have hr := run_append_grow_src (P := P) w t tx ty e i z ht hi hz (some ⟨g, 0, none⟩) n cap xs hold x m news hs (by omega) (by omega) (growslice_fits (by omega) hbytes)
      obtain ⟨a1, a2⟩ := hnew cap (by omega)
      exact ⟨_, _, hr, a1, a2 _, Or.inr rfl⟩
end

section
variable {ops : Array Oper} {rest : List Oper} {o : Oper} {a : Act} {Q : Exit → Act → World → Prop} {w : World} {K : Act → World → Prop} {E : Prop}
/-- append of a string's bytes to bytes of the call's own -/
theorem wp_app_str (s x : Operand) (ho : o.op = .call { callee := .builtin .append, args := #[s, x], argTypes := #[60, 9] })
    (base : Nat) (v : Value) (n : Nat) (xs : List Value) (hs : a.eval s = v) (hown : w.ownsRow base 5 1 v n xs) (b : ByteArray) (hx : a.eval x = .string b)
    (hlen : n + b.size ≤ 100000000) (hbase : base ≤ w.heap.size)
    (h : ∀ v' w', w'.ownsRow base 5 1 v' (n + b.size) (xs ++ cB (bs b)) → w.grownBy w' v.ownBlock → (v'.ownBlock = v.ownBlock ∨ v'.ownBlock = some w.heap.size) → K (a.put o.dst v') w') : o.wp Tryz.prog a w K Q := by
  obtain ⟨i0, hi, hz0, hz1, hz2⟩ := info_parts u8_info
  obtain ⟨v', w', hr, h2, h3, h4⟩ := run_append_own_src (P := Tryz.prog) w base 60 9 o.type _ i0 _ 1 1 Tryz.underlying60 hi hz0 hz1 hz2 rfl v n xs hown (.string b) b.size (byteCells b) (Src.ofString w Tryz.underlying9 b) (by simp only [maxLen]; omega) (by omega) hbase
  unfold Oper.wp execOp
  simp only [ho, resolve, invoke, builtin, Sem.run_bind, Sem.run_pure, Result.andThen_ok, List.map_toArray, List.map_cons, List.map_nil, hs, hx, hr]
  exact h v' w' h2 h3 h4
theorem app_str (hgd : o.guard = none) (s x : Operand) (ho : o.op = .call { callee := .builtin .append, args := #[s, x], argTypes := #[60, 9] })
    (base : Nat) (v : Value) (n : Nat) (xs : List Value) (hs : a.eval s = v) (hown : w.ownsRow base 5 1 v n xs) (b : ByteArray) (hx : a.eval x = .string b)
    (hlen : n + b.size ≤ 100000000) (hbase : base ≤ w.heap.size)
    (h : ∀ v' w', w'.ownsRow base 5 1 v' (n + b.size) (xs ++ cB (bs b)) → w.grownBy w' v.ownBlock → (v'.ownBlock = v.ownBlock ∨ v'.ownBlock = some w.heap.size) → wpList Tryz.prog ops Q rest (a.put o.dst v') w') :
    wpList Tryz.prog ops Q (o :: rest) a w :=
  wpList_plain hgd fun _ hK => wp_app_str s x ho base v n xs hs hown b hx hlen hbase fun v' w' h2 h3 h4 => hK _ _ (h v' w' h2 h3 h4)
/-- the same in a region that draws its order -/
theorem step_str (hgd : o.guard = none) (s x : Operand) (ho : o.op = .call { callee := .builtin .append, args := #[s, x], argTypes := #[60, 9] })
    (base : Nat) (v : Value) (n : Nat) (xs : List Value) (hs : a.eval s = v) (hown : w.ownsRow base 5 1 v n xs) (b : ByteArray) (hx : a.eval x = .string b)
    (hlen : n + b.size ≤ 100000000) (hbase : base ≤ w.heap.size)
    (h : ∀ v' w', w'.ownsRow base 5 1 v' (n + b.size) (xs ++ cB (bs b)) → w.grownBy w' v.ownBlock → (v'.ownBlock = v.ownBlock ∨ v'.ownBlock = some w.heap.size) → K (a.put o.dst v') w') :
    if Region.wanted o (yielded ops a.tmps) = true then Oper.wp Tryz.prog o a w K Q else E := by
  have hw : Region.wanted o (yielded ops a.tmps) = true := by simp [Region.wanted, hgd]
  rw [if_pos hw]
  exact wp_app_str s x ho base v n xs hs hown b hx hlen hbase h
end
theorem cB_append (a b : M.Bytes) : cB (a ++ b) = cB a ++ cB b := by simp [cB]

open Go.PlainAid (bt get_bt bt_nonneg bt_le)
attribute [local go_sem] grow_cell grow_frozen conv_one

set_option maxHeartbeats 1000000 in
theorem v_l1Unpack (o : Nat) (ho : o ≤ 1) (b : ByteArray) (hb : b.size ≤ 8000) (w : World) :
    Calls Tryz.prog 140 #[.int .i64 o, .string b] w fun e w' => e = .returned (S ((M.unpackB o (bs b)).map M.bch)) ∧ G w w' := by
  have hget := get_bt b
  go_enter Tryz.func140, Tryz.ntmps140
  go_wp2_with (at_make; refine mk_u8 rfl _ _ rfl w.heap.size _ _ _ (8 * b.size) rfl rfl (by omega) (by omega) (by simp) ?_; intro w1 hown1 hg1)
  go_loopw [5, 6] (fun v i wr => ∃ (m : Nat), i = .int .i64 m ∧ m ≤ b.size ∧ wr.ownsRow w.heap.size 5 1 v ((M.unpackB o ((bs b).take m)).map M.bch).length (cB ((M.unpackB o ((bs b).take m)).map M.bch)) ∧ GR w wr none ∧ VR w none v) (fun _ i _ => b.size - (intOf i).toNat)
  case atStart => exact ⟨0, rfl, by omega, by simpa [M.unpackB, cB] using hown1, hg1, fun g hg => by simp [Value.ownBlock] at hg; right; omega⟩
  case round =>
    obtain ⟨m, rfl, hm, hown, hG, hV⟩ := hrel
    have hsz := hG.size
    by_cases hlt : m < b.size
    · have hl : m < (bs b).length := by rw [← bs_size]; exact hlt
      have hbt := bt_bs (b := b) rfl m ((bs b)[m]) (List.getElem?_eq_getElem hl)
      generalize hx : (bs b)[m] = x at hbt
      have hx8 : x.toNat < 256 := UInt8.toNat_lt x
      have hlen : ((M.unpackB o ((bs b).take m)).map M.bch).length ≤ 64000 := by simp; omega
      have e : (M.unpackB o ((bs b).take (m + 1))).map M.bch = (M.unpackB o ((bs b).take m)).map M.bch ++ (M.bitsO o x.toNat 8).map M.bch := by
        rw [List.take_add_one, List.getElem?_eq_getElem hl, hx, M.unpackB_append, List.map_append]; simp [M.unpackB]
      generalize hL : (M.unpackB o ((bs b).take m)).map M.bch = L at hown hlen e
      generalize hN : L.length = N at hown hlen
      obtain ⟨y, hy⟩ : ∃ y : ByteArray, bs y = (M.bitsO o x.toNat 8).map M.bch := ⟨⟨((M.bitsO o x.toNat 8).map M.bch).toArray⟩, rfl⟩
      have hyS : S ((M.bitsO o x.toNat 8).map M.bch) = .string y := (bs_eq hy).symm
      have hy8 : y.size ≤ 8 := by rw [bs_size, hy]; simp
      have HX := Lib.hid hx
      have HE := Lib.hid e
      have HN := Lib.hid hN
      have HY := Lib.hid hy
      clear hx hown1 e hL hN hy
      go_wp2_with (first | (go_at_call 118; refine (v_l1Code o _ 8 ho (by omega) (by omega) _).mono ?_; rintro e w' ⟨rfl, h5⟩; rw [hyS]) | (at_builtin; refine app_str rfl (.tmp 17) (.tmp 23) rfl w.heap.size _ _ _ rfl (own_g hown h5) y rfl (by omega) (by have := h5.size; omega) ?_; intro v1 w2 hown2 hg2 hat2))
      go_roundw
      case rel =>
        refine ⟨m + 1, by go_num, by omega, ?_, (hG.g h5).step hV hg2, VR.step (by have := h5.size; omega) hV hat2⟩
        rw [HE.out, List.length_append, HN.out, cB_append]
        rw [HY.out, bs_size, HY.out] at hown2
        exact hown2
      case measure => simp [intOf]; omega
    · have e : (bs b).take m = bs b := List.take_of_length_le (by rw [← bs_size]; omega)
      rw [e] at hown
      generalize hL : (M.unpackB o (bs b)).map M.bch = L at hown
      have HL := Lib.hid hL
      generalize L.length = N at hown
      obtain ⟨A, c, rfl⟩ := own_form hown
      have hconv := conv_own _ _ _ _ _ _ hown
      clear hown hown1 e hL
      go_wp2
      go_ret
      rw [HL.out]
      exact ⟨rfl, hG.toG⟩
end Go.Proofs.YtlaijbkonapdbaaGreat

namespace M
/-- a list of bytes of which the first and the last i have changed places -/
def rvl (l : Bytes) (i : Nat) : Bytes := (List.range l.length).map fun j => if j < i ∨ l.length ≤ j + i then l.getD (l.length - 1 - j) 0 else l.getD j 0
@[simp] theorem rvl_length (l : Bytes) (i : Nat) : (rvl l i).length = l.length := by simp [rvl]
theorem rvl_get (l : Bytes) (i j : Nat) (h : j < l.length) : (rvl l i)[j]? = some (if j < i ∨ l.length ≤ j + i then l.getD (l.length - 1 - j) 0 else l.getD j 0) := by simp [rvl, h]
theorem rvl_zero (l : Bytes) : rvl l 0 = l := by
  apply List.ext_getElem?
  intro j
  rcases Nat.lt_or_ge j l.length with h | h
  · rw [rvl_get l 0 j h, if_neg (by omega)]; simp [List.getD_eq_getElem?_getD, h]
  · rw [List.getElem?_eq_none (by simpa using h), List.getElem?_eq_none h]
theorem rvl_end (l : Bytes) (i : Nat) (h1 : l.length ≤ 2 * i + 1) : rvl l i = l.reverse := by
  apply List.ext_getElem?
  intro j
  rcases Nat.lt_or_ge j l.length with h | h
  · rw [rvl_get l i j h, List.getElem?_reverse h]
    split
    · simp [List.getD_eq_getElem?_getD, show l.length - 1 - j < l.length by omega]
    · have e : l.length - 1 - j = j := by omega
      rw [e]; simp [List.getD_eq_getElem?_getD, h]
  · rw [List.getElem?_eq_none (by simpa using h), List.getElem?_eq_none (by simpa using h)]
theorem rvl_step (l : Bytes) (i : Nat) (h : 2 * i + 1 < l.length) : rvl l (i + 1) = ((rvl l i).set i (l.getD (l.length - 1 - i) 0)).set (l.length - 1 - i) (l.getD i 0) := by
  apply List.ext_getElem?
  intro j
  rcases Nat.lt_or_ge j l.length with hj | hj
  · rw [rvl_get l _ j hj, List.getElem?_set, List.getElem?_set]
    simp only [List.length_set, rvl_length]
    by_cases e1 : l.length - 1 - i = j
    · rw [if_pos e1, if_pos (by omega), if_pos (by omega)]
      have : l.length - 1 - j = i := by omega
      rw [this]
    · rw [if_neg e1]
      by_cases e2 : i = j
      · subst e2
        rw [if_pos rfl, if_pos (by omega), if_pos (by omega)]
      · rw [if_neg e2, rvl_get l i j hj]
        by_cases e3 : j < i ∨ l.length ≤ j + i
        · rw [if_pos e3, if_pos (by omega)]
        · rw [if_neg e3, if_neg (by omega)]
  · rw [List.getElem?_eq_none (by simpa using hj), List.getElem?_eq_none (by simpa using hj)]
theorem rvl_left (l : Bytes) (i : Nat) (h : 2 * i + 1 < l.length) : (rvl l i)[i]? = some (l.getD i 0) := by
  rw [rvl_get l i i (by omega), if_neg (by omega)]
theorem rvl_right (l : Bytes) (i : Nat) (h : 2 * i + 1 < l.length) : (rvl l i)[l.length - 1 - i]? = some (l.getD (l.length - 1 - i) 0) := by
  rw [rvl_get l i _ (by omega), if_neg (by omega)]
end M

namespace Go.Proofs.YtlaijbkonapdbaaGreat
open Go.RowKit
attribute [local go_sem] grow_cell grow_frozen conv_one

theorem cB_get (l : M.Bytes) (i : Nat) (x : UInt8) (h : l[i]? = some x) : (cB l)[i]? = some (.int .u8 x.toNat) := by simp [cB, h]
theorem cB_set (l : M.Bytes) (i : Nat) (x : UInt8) : (cB l).set i (.int .u8 x.toNat) = cB (l.set i x) := by simp [cB, List.map_set]

set_option maxHeartbeats 1000000 in
theorem v_Reverse (base : Nat) (A : Option Addr) (n c : Nat) (hn : n ≤ 1000000) (l : M.Bytes) (w : World) (hown : w.ownsRow base 5 1 (.slice A n c) n (cB l)) :
    Calls Tryz.prog 139 #[.slice A n c] w fun e w' => e = .returned (.tuple #[]) ∧ w'.ownsRow base 5 1 (.slice A n c) n (cB l.reverse) ∧ GR w w' (Value.ownBlock (.slice A n c)) := by
  have hl : l.length = n := by have := hown.1; simpa using this
  by_cases h0 : n = 0
  · subst h0
    have hl0 : l = [] := List.eq_nil_of_length_eq_zero hl
    subst hl0
    go_enter Tryz.func139, Tryz.ntmps139
    go_wp2
    refine wp_loop_rounds 1 ?_
    rw [rounds_succ]
    go_wp2
    go_end0
    exact ⟨rfl, hown, GR.refl _ _⟩
  · obtain ⟨g, rfl⟩ : ∃ g, A = some ⟨g, 0, none⟩ := by
      rcases hown.2 with ⟨_, h⟩ | ⟨g, cap, cur, hv, _⟩
      · exact absurd h h0
      · exact ⟨g, (Value.slice.inj hv).1⟩
    have HL := Lib.hid hl
    clear hl
    go_enter Tryz.func139, Tryz.ntmps139
    go_wp2
    go_loopw [2, 3] (fun i j wr => ∃ m J : Nat, i = .int .i64 m ∧ j = .int .i64 J ∧ Hid (J + m + 1 = n) ∧ m ≤ J + 1 ∧ J < n ∧ wr.ownsRow base 5 1 (.slice (some ⟨g, 0, none⟩) n c) n (cB (M.rvl l m)) ∧ GR w wr (some g)) (fun i _ _ => n - (intOf i).toNat)
    case atStart => exact ⟨0, n - 1, rfl, by congr 1; omega, by show _ = _; omega, by omega, by omega, by rw [M.rvl_zero]; exact hown, GR.refl _ _⟩
    case round =>
      obtain ⟨m, J, rfl, rfl, HJ, hmJ, hJn, hown2, hG⟩ := hrel
      by_cases hlt : m < J
      · obtain ⟨x, hx⟩ : ∃ x, l.getD m 0 = x := ⟨_, rfl⟩
        obtain ⟨y, hy⟩ : ∃ y, l.getD (l.length - 1 - m) 0 = y := ⟨_, rfl⟩
        have hJ := HJ.out
        have hb : 2 * m + 1 < l.length := by rw [HL.out]; omega
        have eJ : l.length - 1 - m = J := by rw [HL.out]; omega
        have c1 := M.rvl_left l m hb
        have c2 := M.rvl_right l m hb
        rw [hx] at c1
        rw [hy, eJ] at c2
        have d1 := (hown2.cellAt m (by omega)).trans (cB_get _ _ _ c1)
        have d2 := (hown2.cellAt J (by omega)).trans (cB_get _ _ _ c2)
        have f1 := hown2.frozenAt m
        have f2 := hown2.frozenAt J
        have HS := Lib.hid (M.rvl_step l m hb)
        have HO := Lib.hid hown2
        have HX := Lib.hid hx
        have HY := Lib.hid hy
        have HE := Lib.hid eJ
        clear hown2 hx hy eJ c1 c2 hJ hb
        go_wp2
        go_region
        go_wp2
        go_roundw
        case rel =>
          obtain ⟨a1, a2⟩ := HO.out.stored m (.int .u8 y.toNat)
          obtain ⟨b1, b2⟩ := a1.stored J (.int .u8 x.toNat)
          refine ⟨m + 1, J - 1, by go_num, by congr 1; omega, by have := HJ.out; show _ = _; omega, by omega, by omega, ?_, ?_⟩
          · have e := HS.out
            rw [HX.out, HY.out, HE.out] at e
            rw [e, ← cB_set, ← cB_set]
            exact own_g b1 ((G.refl _).drew)
          · exact (((hG.step (v := .slice (some ⟨g, 0, none⟩) n c) (fun k hk => by simp [Value.ownBlock] at hk; left; rw [hk]) a2).step (v := .slice (some ⟨g, 0, none⟩) n c) (fun k hk => by simp [Value.ownBlock] at hk; left; rw [hk]) b2)).g ((G.refl _).drew)
        case measure => simp [intOf]; omega
      · go_wp2
        go_end0
        have e : M.rvl l m = l.reverse := M.rvl_end l m (by have := HJ.out; rw [HL.out]; omega)
        rw [e] at hown2
        exact ⟨rfl, hown2, hG⟩
end Go.Proofs.YtlaijbkonapdbaaGreat

namespace Go.Proofs.YtlaijbkonapdbaaGreat
open Go.RowKit
attribute [local go_sem] grow_cell grow_frozen conv_one

/-- the eight cells that l2Word's drawn region reads stay -/
theorem held8 {w w' : World} (hg : G w w') {b g i j : Nat} {v0 v1 v2 v3 v4 v5 v6 v7 : Value}
    (h : b < w.heap.size ∧ g < w.heap.size ∧ w.cell? ⟨b, 0, none⟩ = some v0 ∧ w.cell? ⟨b, 1, none⟩ = some v1 ∧ w.cell? ⟨b, 2, none⟩ = some v2 ∧ w.cell? ⟨b, 3, none⟩ = some v3 ∧ w.cell? ⟨b, 4, none⟩ = some v4 ∧ w.cell? ⟨b, 5, none⟩ = some v5 ∧ w.cell? ⟨g, i, none⟩ = some v6 ∧ w.cell? ⟨g, j, none⟩ = some v7) :
    b < w'.heap.size ∧ g < w'.heap.size ∧ w'.cell? ⟨b, 0, none⟩ = some v0 ∧ w'.cell? ⟨b, 1, none⟩ = some v1 ∧ w'.cell? ⟨b, 2, none⟩ = some v2 ∧ w'.cell? ⟨b, 3, none⟩ = some v3 ∧ w'.cell? ⟨b, 4, none⟩ = some v4 ∧ w'.cell? ⟨b, 5, none⟩ = some v5 ∧ w'.cell? ⟨g, i, none⟩ = some v6 ∧ w'.cell? ⟨g, j, none⟩ = some v7 := by
  obtain ⟨h1, h2, h3, h4, h5, h6, h7, h8, h9, h10⟩ := h
  exact ⟨Nat.lt_of_lt_of_le h1 hg.size, Nat.lt_of_lt_of_le h2 hg.size, (hg.cell (p := ⟨b, 0, none⟩) h1).trans h3, (hg.cell (p := ⟨b, 1, none⟩) h1).trans h4, (hg.cell (p := ⟨b, 2, none⟩) h1).trans h5, (hg.cell (p := ⟨b, 3, none⟩) h1).trans h6, (hg.cell (p := ⟨b, 4, none⟩) h1).trans h7, (hg.cell (p := ⟨b, 5, none⟩) h1).trans h8, (hg.cell (p := ⟨g, i, none⟩) h2).trans h9, (hg.cell (p := ⟨g, j, none⟩) h2).trans h10⟩

theorem own_lt {w : World} {base : Nat} {e : TypeId} {size n : Nat} {v : Value} {xs : List Value} (h : w.ownsRow base e size v n xs) {g : Nat} (hg : v.ownBlock = some g) : g < w.heap.size := by
  rcases h.2 with ⟨hv, _⟩ | ⟨g', cap, cur, hv, _, hh, _⟩
  · rw [hv] at hg; simp [Value.ownBlock] at hg
  · rw [hv] at hg; simp [Value.ownBlock] at hg
    subst hg
    exact (Array.getElem?_eq_some_iff.1 hh).1

section
variable (k : M.Kn) (hk : k.V) (A : Option Addr) (c : Nat) (w : World) (hr : Rds w 2 A k.ps.length (cP k.ps))
include hk hr

set_option maxHeartbeats 2000000 in
theorem v_l2Word (code : Nat) (hc : M.has k.s.c k.ps.length code) : Calls Tryz.prog 141 #[knV k A c, .int .i64 code] w fun e w' => e = .returned (S (k.W code)) ∧ G w w' := by
  have hs := hk.s
  have hn : k.ps.length ≤ 1024 := by have h1 := hk.nxt_le; have h2 := hk.s.l1024; unfold M.Kn.nxt at h1; omega
  have h256 := hs.c256
  have he1 : k.s.e ≤ k.s.c + 1 := by rw [M.St.e_eq]; omega
  have he2 : k.s.c + 1 ≤ k.s.e := by rw [M.St.e_eq]; omega
  have hcm : code ≤ 2000 := by unfold M.has at hc; omega
  have HC := Lib.hid hc
  have HR0 := Lib.hid hr
  clear hc hr
  go_enter Tryz.func141, Tryz.ntmps141
  go_wp2
  refine wp_gen (fun Wl => ∃ W : World, G w W ∧ KBox W w.heap.size k A c ∧ Rds W 2 A k.ps.length (cP k.ps) ∧ Wl.ownsRow W.heap.size 5 1 (.slice (some ⟨w.heap.size + 1, 0, none⟩) 0 0) 0 [] ∧ GR W Wl none ∧ VR W none (.slice (some ⟨w.heap.size + 1, 0, none⟩) 0 0))
    ⟨w.alloc _, (by repeat' (first | (with_reducible exact G.refl _) | (with_reducible assumption) | (with_reducible refine G.alloc ?_ _) | (with_reducible refine G.drew ?_) | (with_reducible refine G.drewN ?_ _) | (refine G.setCell ?_ (by first | (simp <;> done) | (simp <;> omega)) _) | (with_reducible refine G.trans ?_ (by with_reducible assumption)))), ⟨by simp, by go_cell, by go_cell, by go_cell, by go_cell, by go_cell, by go_cell⟩, HR0.out.alloc _, (by have h := World.ownsRow_made (base := (w.alloc (.cells #[.int .i64 k.s.ord, .int .i64 k.s.lit, .int .i64 k.s.most, .slice A k.ps.length c, .int .i64 k.base, .int .i64 k.last] 40)).heap.size) (e := 5) (size := 1) (w.alloc (.cells #[.int .i64 k.s.ord, .int .i64 k.s.lit, .int .i64 k.s.most, .slice A k.ps.length c, .int .i64 k.base, .int .i64 k.last] 40)) #[] 0 (Nat.le_refl _) (Nat.zero_le _) rfl; simpa using h), GR.of_g ((G.refl _).alloc _) _, fun g hg => by simp [Value.ownBlock] at hg; right; simp; omega⟩ ?_
  rintro Wl ⟨W, hG, hK, hR, hown0, hG0, hV0⟩
  have HRW := Lib.hid hR
  have HKW := Lib.hid hK
  have hWs := hK.lt
  clear hR hK
  go_loopw [1, 5] (fun x v wr => ∃ (m : Nat) (o : M.Bytes), x = .int .i64 m ∧ m ≤ 2000 ∧ Hid (M.has k.s.c k.ps.length m) ∧ Hid (k.W code = k.W m ++ o.reverse) ∧ o.length + m ≤ 3000 ∧ wr.ownsRow W.heap.size 5 1 v o.length (cB o) ∧ GR W wr none ∧ VR W none v) (fun x _ _ => (intOf x).toNat)
  case atStart => exact ⟨code, [], rfl, by omega, HC.out, by simp [Hid], by simp; omega, hown0, hG0, hV0⟩
  case round =>
    obtain ⟨m, o, rfl, hm, HM, HW, hol, hown, hG2, hV⟩ := hrel
    obtain ⟨k9, k0, k1, k2, k3, k4, k5⟩ := HKW.out.g hG2.toG
    by_cases hlt : k.s.e < m
    · obtain ⟨i, rfl⟩ : ∃ i, m = k.s.c + 2 + i := ⟨m - (k.s.c + 2), by omega⟩
      have hi : i < k.ps.length := by have := HM.out; unfold M.has at this; omega
      obtain ⟨g, hA, hg, hcell⟩ := (HRW.out.g hG2.toG).at_ (by omega)
      obtain ⟨q1, q2⟩ := cP_get k.ps i hi
      have d1 := hcell _ _ q1
      have d2 := hcell _ _ q2
      have hp1 := Lib.hid (hk.pv.pre i hi)
      have hp2 := hk.pv.byt i hi
      have HWP := Lib.hid (M.wd_pair k.s.c k.ps hk.pv i hi)
      generalize hpp : k.ps[i] = p at hp1 hp2 q1 q2 d1 d2 HWP
      subst hA
      have HQ1 := Lib.hid q1
      have HQ2 := Lib.hid q2
      have HPP := Lib.hid hpp
      have u1 : IntKind.i64.wrap (((k.s.c + 2 + i : Nat) : Int) - k.s.e) = ((k.s.c + 2 + i : Nat) : Int) - k.s.e := by go_unwrap
      have u2 : IntKind.i64.wrap (((k.s.c + 2 + i : Nat) : Int) - k.s.e - 1) = i := by have := M.St.e_eq k.s; rw [IntWalk.i64_in _ ⟨by omega, by omega⟩]; omega
      have b1 : (0 : Int) ≤ (i : Int) := by omega
      have b2 : (i : Int) < (k.ps.length : Int) := by omega
      clear q1 q2 hpp hcell
      generalize hmm : k.s.c + 2 + i = m at *
      have HMM := Lib.hid hmm
      clear hmm
      go_wp2_with (go_at_call 93; refine (v_l1End k.s hs _).mono ?_; rintro e w' ⟨rfl, h7⟩; obtain ⟨hch7, hfh7⟩ := gcell h7; have z1 : w.heap.size < w'.heap.size := (by have := h7.size; (try simp at this); omega); have z2 : g < w'.heap.size := (by have := h7.size; (try simp at this); omega))
      rename World => w7
      have hs7 := h7.size
      have hS0 := held8 h7 (b := w.heap.size) (g := g) (i := i * 2) (j := i * 2 + 1) ⟨k9, hg, k0, k1, k2, k3, k4, k5, d1, d2⟩
      go_cut [6] (fun v wc => ∃ bx : Nat, v = .pointer (some ⟨bx, 0, none⟩) ∧ bx < wc.heap.size ∧ wr.heap.size ≤ bx ∧ wc.cell? ⟨bx, 0, none⟩ = some (.int .i64 p.1) ∧ wc.cell? ⟨bx, 1, none⟩ = some (.int .i64 p.2) ∧ G wr wc)
      case first =>
       go_region_held3 (fun w' => w.heap.size < w'.heap.size ∧ g < w'.heap.size ∧ w'.cell? ⟨w.heap.size, 0, none⟩ = some (.int .i64 k.s.ord) ∧ w'.cell? ⟨w.heap.size, 1, none⟩ = some (.int .i64 k.s.lit) ∧ w'.cell? ⟨w.heap.size, 2, none⟩ = some (.int .i64 k.s.most) ∧ w'.cell? ⟨w.heap.size, 3, none⟩ = some (.slice (some ⟨g, 0, none⟩) k.ps.length c) ∧ w'.cell? ⟨w.heap.size, 4, none⟩ = some (.int .i64 k.base) ∧ w'.cell? ⟨w.heap.size, 5, none⟩ = some (.int .i64 k.last) ∧ w'.cell? ⟨g, i * 2, none⟩ = some (.int .i64 p.1) ∧ w'.cell? ⟨g, i * 2 + 1, none⟩ = some (.int .i64 p.2)) (exact held8 (by repeat' (first | (with_reducible exact G.refl _) | (with_reducible assumption) | (with_reducible refine G.alloc ?_ _) | (with_reducible refine G.drew ?_) | (with_reducible refine G.drewN ?_ _) | (refine G.setCell ?_ (by first | (simp <;> done) | (simp <;> omega)) _) | (with_reducible refine G.trans ?_ (by with_reducible assumption)))) hS0) ((go_at_call 93; refine (v_l1End k.s hs _).mono ?_; rintro e w' ⟨rfl, h8⟩; obtain ⟨hch8, hfh8⟩ := gcell h8))
       all_goals (go_wp2_with fail; go_meet)
       · exact ⟨_, rfl, by simp, by have := h8.size; simp at this; omega, by go_cell, by go_cell, (by repeat' (first | (with_reducible exact G.refl _) | (with_reducible assumption) | (with_reducible refine G.alloc ?_ _) | (with_reducible refine G.drew ?_) | (with_reducible refine G.drewN ?_ _) | (refine G.setCell ?_ (by first | (simp <;> done) | (simp <;> omega)) _) | (with_reducible refine G.trans ?_ (by with_reducible assumption))))⟩
       · rename World => w8
         have f0 : w8.cell? ⟨w7.heap.size, 0, none⟩ = some (.int .i64 0) := (h8.cell (p := ⟨w7.heap.size, 0, none⟩) (by simp)).trans (by go_cell)
         have f1 : w8.cell? ⟨w7.heap.size, 1, none⟩ = some (.int .i64 0) := (h8.cell (p := ⟨w7.heap.size, 1, none⟩) (by simp)).trans (by go_cell)
         have := h8.size
         exact ⟨_, rfl, by simp at this ⊢; omega, by simp at this; omega, by go_cell, by go_cell, (by repeat' (first | (with_reducible exact G.refl _) | (with_reducible assumption) | (with_reducible refine G.alloc ?_ _) | (with_reducible refine G.drew ?_) | (with_reducible refine G.drewN ?_ _) | (refine G.setCell ?_ (by first | (simp <;> done) | (simp <;> omega)) _) | (with_reducible refine G.trans ?_ (by with_reducible assumption))))⟩
      case rest =>
       obtain ⟨bx, rfl, hbx, hbx2, e0, e1, hG3⟩ := hcut
       have HP2 := Lib.hid (show IntKind.u8.wrap (p.2 : Int) = ((UInt8.ofNat p.2).toNat : Int) by rw [IntWalk.u8_in _ ⟨by omega, by omega⟩]; simp; omega)
       have hown3 := own_g hown hG3
       have HO := Lib.hid hown3
       have HB1 := Lib.hid b1
       have hne : u5.ownBlock ≠ some bx := fun h => by have := own_lt hown h; omega
       clear hown hS0 u1 u2 b1 b2
       have hsz := hG2.size
       have hsz3 := hG3.size
       go_wp2_with ((at_builtin; refine app_u8 rfl (.tmp 25) (.tmp 29) rfl W.heap.size _ _ _ rfl (hown3.alloc _) ⟨_, 0, none⟩ 1 1 [_] rfl rfl (cell_one_new _ _ _) (by simp [Value.oneCell']) (by omega) (by simp; omega) ?_; intro v1 w1 hownw1 hgw1 hatw1; have f0 : w1.cell? ⟨bx, 0, none⟩ = some (.int .i64 p.1) := (GR.cell hgw1 (g := bx) (by simp; omega) hne 0).trans (by go_cell)))
       go_roundw
       case rel =>
         have hmp : p.1 < m := by have h1 := hp1.out; have := HMM.out; unfold M.has at h1; omega
         refine ⟨p.1, o ++ [UInt8.ofNat p.2], rfl, by omega, ?_, ?_, by simp; omega, ?_, ((hG2.g (hG3.alloc _)).step hV hgw1), VR.step (by simp; omega) hV hatw1⟩
         · have := hp1.out; show M.has _ _ _; unfold M.has at *; omega
         · show _ = _
           have e := HWP.out
           rw [HW.out]
           show M.wd _ _ _ ++ _ = M.wd _ _ _ ++ _
           rw [e]; simp
         · have e := HP2.out
           rw [IntWalk.u8_in _ ⟨by omega, by omega⟩] at e
           rw [cB_snoc, List.length_append, ← e]
           exact hownw1
       case measure => have h1 := hp1.out; have := HMM.out; unfold M.has at h1; simp [intOf]; omega
    · have hmc : m < k.s.c := by have h1 := HM.out; unfold M.has at h1; omega
      have hsz := hG2.size
      go_wp2_with (first | (go_at_call 93; refine (v_l1End k.s hs _).mono ?_; rintro e w' ⟨rfl, h7⟩; obtain ⟨hch7, hfh7⟩ := gcell h7; have hown3 := own_g hown h7; have hsz3 := h7.size) | (at_builtin; refine app_u8 rfl (.tmp 33) (.tmp 36) rfl W.heap.size _ _ _ rfl (hown3.alloc _) ⟨_, 0, none⟩ 1 1 [_] rfl rfl (cell_one_new _ _ _) (by simp [Value.oneCell']) (by omega) (by simp; omega) ?_; intro v1 w1 hownw1 hgw1 hatw1))
      have hm8 : IntKind.u8.wrap (m : Int) = m := IntWalk.u8_in _ ⟨by omega, by omega⟩
      have H8 := Lib.hid hm8
      have hG4 : GR W w1 none := (hG2.g (h7.alloc _)).step hV hgw1
      have hV4 : VR W none v1 := VR.step (by simp; omega) hV hatw1
      obtain ⟨l, hl⟩ : ∃ l, o ++ [UInt8.ofNat m] = l := ⟨_, rfl⟩
      have hol2 : w1.ownsRow W.heap.size 5 1 v1 (o.length + 1) (cB l) := by
        rw [← hl, cB_snoc]
        have e : ((UInt8.ofNat m).toNat : Int) = m := by simp; omega
        rw [e]; exact hownw1
      have HF : Hid (k.W code = l.reverse) := by
        show _ = _
        rw [HW.out, ← hl, List.reverse_append]
        show M.wd _ _ _ ++ _ = _
        rw [M.wd_lit _ _ _ hmc]; rfl
      have HLl : Hid (l.length = o.length + 1) := by show _ = _; rw [← hl]; simp
      have hn3 : o.length + 1 ≤ 3001 := by omega
      have hn4 : 0 < o.length + 1 := by omega
      clear hownw1 hgw1 hatw1 hl hown hown3 hG2 hV HW hol HM
      obtain ⟨A1, c1, rfl⟩ := own_form hol2
      obtain ⟨g1, rfl⟩ : ∃ g, A1 = some ⟨g, 0, none⟩ := by
        rcases hol2.2 with ⟨_, h⟩ | ⟨g, cap, cur, hv, _⟩
        · omega
        · exact ⟨g, (Value.slice.inj hv).1⟩
      generalize o.length + 1 = n at *
      go_loopw [7] (fun x wr => ∃ (i : Nat), x = .int .i64 i ∧ i ≤ n / 2 ∧ wr.ownsRow W.heap.size 5 1 (.slice (some ⟨g1, 0, none⟩) n c1) n (cB (M.rvl l i)) ∧ GR W wr none) (fun x _ => n - (intOf x).toNat)
      case atStart => exact ⟨0, rfl, by omega, by rw [M.rvl_zero]; exact hol2, hG4⟩
      case round =>
        obtain ⟨i, rfl, hi, hown5, hG5⟩ := hrel
        by_cases hlt2 : i < n / 2
        · obtain ⟨x, hx⟩ : ∃ x, l.getD i 0 = x := ⟨_, rfl⟩
          obtain ⟨y, hy⟩ : ∃ y, l.getD (l.length - 1 - i) 0 = y := ⟨_, rfl⟩
          have hb : 2 * i + 1 < l.length := by have := HLl.out; omega
          have eJ : l.length - 1 - i = n - 1 - i := by have := HLl.out; omega
          have c1 := M.rvl_left l i hb
          have c2 := M.rvl_right l i hb
          rw [hx] at c1
          rw [hy, eJ] at c2
          have d1 := (hown5.cellAt i (by omega)).trans (cB_get _ _ _ c1)
          have d2 := (hown5.cellAt (n - 1 - i) (by omega)).trans (cB_get _ _ _ c2)
          have f1 := hown5.frozenAt i
          have f2 := hown5.frozenAt (n - 1 - i)
          have HS := Lib.hid (M.rvl_step l i hb)
          have HO := Lib.hid hown5
          have HX := Lib.hid hx
          have HY := Lib.hid hy
          have HE := Lib.hid eJ
          have hJn : n - 1 - i < n := by omega
          have hJi : i < n - 1 - i := by omega
          clear hown5 hx hy eJ c1 c2 hb
          go_wp2
          go_roundw
          case rel =>
            obtain ⟨a1, a2⟩ := HO.out.stored i (.int .u8 y.toNat)
            obtain ⟨b1, b2⟩ := a1.stored (n - 1 - i) (.int .u8 x.toNat)
            refine ⟨i + 1, by go_num, by omega, ?_, ?_⟩
            · have e := HS.out
              rw [HX.out, HY.out, HE.out] at e
              rw [e, ← cB_set, ← cB_set]
              exact b1
            · exact (hG5.step (v := .slice (some ⟨g1, 0, none⟩) n c1) hV4 a2).step (v := .slice (some ⟨g1, 0, none⟩) n c1) hV4 b2
          case measure => simp [intOf]; omega
        · have e : M.rvl l i = l.reverse := M.rvl_end l i (by rw [HLl.out]; omega)
          rw [e] at hown5
          generalize hr : l.reverse = r at hown5
          have HR := Lib.hid hr
          have hconv := conv_own _ _ _ _ _ _ hown5
          clear hown5 hol2 hr hm8 e k0 k1 k2 k3 k4 k5
          have e1 : decide ((i : Int) < (n : Int) / 2) = false := by simp; omega
          have e2 : ¬ (i : Int) < (n : Int) / 2 := by omega
          clear hlt2 hi
          go_wp2
          go_ret
          exact ⟨by rw [HF.out, HR.out]; rfl, hG.trans hG5.toG⟩
end
end Go.Proofs.YtlaijbkonapdbaaGreat

namespace Go.Proofs.YtlaijbkonapdbaaGreat
open Go.RowKit
attribute [local go_sem] grow_cell grow_frozen conv_one

section
variable (k : M.Kn) (hk : k.V) (A : Option Addr) (c : Nat) (w : World) (hr : Rds w 2 A k.ps.length (cP k.ps))
include hk hr

theorem v_l2WordI (x : Int) (code : Nat) (hx : x = code) (hc : M.has k.s.c k.ps.length code) : Calls Tryz.prog 141 #[knV k A c, .int .i64 x] w fun e w' => e = .returned (S (k.W code)) ∧ G w w' := by
  rw [hx]; exact v_l2Word k hk A c w hr code hc

set_option maxHeartbeats 1000000 in
theorem v_l2Any (code : Nat) (hc : k.follows code) : Calls Tryz.prog 131 #[knV k A c, .int .i64 code] w fun e w' => e = .returned (S (k.A code)) ∧ G w w' := by
  have hn : k.nxt ≤ 2000 := by have h1 := hk.nxt_le; have h2 := hk.s.l1024; omega
  have HC := Lib.hid hc
  have HR := Lib.hid hr
  by_cases h : code = k.nxt
  · have hg : k.grows = true := by
      rcases (hk.follows_iff code).1 hc with h1 | h1
      · unfold M.has at h1; unfold M.Kn.nxt at h; have := hk.s.c2; omega
      · exact h1.1
    obtain ⟨g1, g2, g3⟩ := hk.grows_last hg
    obtain ⟨l, hl⟩ : ∃ l : Nat, k.last = l := ⟨k.last.toNat, by omega⟩
    have hl2 : k.last.toNat = l := by omega
    have hA : k.A code = k.W l ++ (k.W l).take 1 := by unfold M.Kn.A; rw [if_pos h, hl2]
    rw [hl2] at g1
    obtain ⟨hw1, hw2, _⟩ := M.wd_ne k.s.c k.ps hk.pv l g1
    have hw3 : 1 ≤ (k.W l).length := hw1
    have hw4 : (k.W l).length ≤ 2001 := by unfold M.Kn.W; unfold M.Kn.nxt at hn; omega
    subst h
    have G1 := Lib.hid g1
    have HL := Lib.hid hl
    have HA := Lib.hid hA
    clear hc hr hg g1 g3 hA hw1 hw2 hl2
    go_enter Tryz.func131, Tryz.ntmps131
    clear hl
    obtain ⟨q, hq⟩ : ∃ q, k.W l = q := ⟨_, rfl⟩
    rw [hq] at hw3 hw4
    have HQ := Lib.hid hq
    obtain ⟨b, hb⟩ : ∃ b, bs b = q := ⟨⟨q.toArray⟩, rfl⟩
    have hb1 : 1 ≤ b.size := by rw [bs_size, hb]; exact hw3
    have hb2 : b.size ≤ 2001 := by rw [bs_size, hb]; exact hw4
    have HB := Lib.hid hb
    clear hq hb hw3 hw4
    go_wp2_with (first | (go_at_call 119; refine (v_l2Next k hk A c _).mono ?_; rintro e w' ⟨rfl, h1⟩; obtain ⟨hch1, hfh1⟩ := gcell h1; try (have hzh1 : w.heap.size < w'.heap.size := by have := h1.size; (try simp at this); omega); try (have hyh1 : w.heap.size + 1 < w'.heap.size := by have := h1.size; (try simp at this); omega)) | (go_at_call 141; refine (v_l2WordI k hk A c _ (HR.out.g (by repeat' (first | (with_reducible exact G.refl _) | (with_reducible assumption) | (with_reducible refine G.alloc ?_ _) | (with_reducible refine G.drew ?_) | (with_reducible refine G.drewN ?_ _) | (refine G.setCell ?_ (by first | (simp <;> done) | (simp <;> omega)) _) | (with_reducible refine G.trans ?_ (by with_reducible assumption))))) _ l HL.out G1.out).mono ?_; rintro e w' ⟨rfl, h2⟩; obtain ⟨hch2, hfh2⟩ := gcell h2; rw [HQ.out, ← bs_eq HB.out]))
    go_ret
    exact ⟨congrArg _ (bs_eq (by rw [bs_append, bs_extract, HB.out, HA.out, HQ.out]; simp)), (by repeat' (first | (with_reducible exact G.refl _) | (with_reducible assumption) | (with_reducible refine G.alloc ?_ _) | (with_reducible refine G.drew ?_) | (with_reducible refine G.drewN ?_ _) | (refine G.setCell ?_ (by first | (simp <;> done) | (simp <;> omega)) _) | (with_reducible refine G.trans ?_ (by with_reducible assumption))))⟩
  · have hh : M.has k.s.c k.ps.length code := by
      rcases (hk.follows_iff code).1 hc with h1 | h1
      · exact h1
      · exact absurd h1.2 h
    have HH := Lib.hid hh
    have HA : Hid (k.A code = k.W code) := by unfold Hid M.Kn.A; rw [if_neg h]
    clear hh hr hc
    go_enter Tryz.func131, Tryz.ntmps131
    go_wp2_with (first | (go_at_call 119; refine (v_l2Next k hk A c _).mono ?_; rintro e w' ⟨rfl, h1⟩; obtain ⟨hch1, hfh1⟩ := gcell h1; try (have hzh1 : w.heap.size < w'.heap.size := by have := h1.size; (try simp at this); omega); try (have hyh1 : w.heap.size + 1 < w'.heap.size := by have := h1.size; (try simp at this); omega)) | (go_at_call 141; refine (v_l2Word k hk A c _ (HR.out.g (by repeat' (first | (with_reducible exact G.refl _) | (with_reducible assumption) | (with_reducible refine G.alloc ?_ _) | (with_reducible refine G.drew ?_) | (with_reducible refine G.drewN ?_ _) | (refine G.setCell ?_ (by first | (simp <;> done) | (simp <;> omega)) _) | (with_reducible refine G.trans ?_ (by with_reducible assumption))))) code HH.out).mono ?_; rintro e w' ⟨rfl, h2⟩; obtain ⟨hch2, hfh2⟩ := gcell h2; try (have hzh2 : w.heap.size < w'.heap.size := by have := h2.size; (try simp at this); omega); try (have hyh2 : w.heap.size + 1 < w'.heap.size := by have := h2.size; (try simp at this); omega)))
    go_ret
    exact ⟨by rw [HA.out]; rfl, (by repeat' (first | (with_reducible exact G.refl _) | (with_reducible assumption) | (with_reducible refine G.alloc ?_ _) | (with_reducible refine G.drew ?_) | (with_reducible refine G.drewN ?_ _) | (refine G.setCell ?_ (by first | (simp <;> done) | (simp <;> omega)) _) | (with_reducible refine G.trans ?_ (by with_reducible assumption))))⟩
end
end Go.Proofs.YtlaijbkonapdbaaGreat
