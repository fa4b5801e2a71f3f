/-
  FnExactAppendDataSaid is proved: for every input FnExactAppendData returns true, and each argument reads afterwards as it read before; no conditions. Part 3 of 25.
-/
import Derived.Test.YtlaijbkonapdbaaGreatA02
import Derived.Shelf.Strings.Builder1
import Derived.Shelf.Small.Bits
import Derived.Shelf.Strings.BuilderF
import Derived.Shelf.Strings.BuilderK
import Derived.Shelf.Strconv.Itoa0
import Derived.Test.YtlaijbkonapdbaaGreatProg

set_option linter.all false

namespace Go.Proofs.YtlaijbkonapdbaaGreat
open Go.RowKit

/-- a Known by value -/
abbrev knV (k : M.Kn) (A : Option Addr) (c : Nat) : Value := .agg #[.int .i64 k.s.ord, .int .i64 k.s.lit, .int .i64 k.s.most, .slice A k.ps.length c, .int .i64 k.base, .int .i64 k.last]
abbrev stV (s : M.St) : Value := .agg #[.int .i64 s.ord, .int .i64 s.lit, .int .i64 s.most]

/-- a variable that holds a Known, a setting, a pair -/
structure KBox (w : World) (b : Nat) (k : M.Kn) (A : Option Addr) (c : Nat) : Prop where
  lt : b < w.heap.size
  c0 : w.cell? ⟨b, 0, none⟩ = some (.int .i64 k.s.ord)
  c1 : w.cell? ⟨b, 1, none⟩ = some (.int .i64 k.s.lit)
  c2 : w.cell? ⟨b, 2, none⟩ = some (.int .i64 k.s.most)
  c3 : w.cell? ⟨b, 3, none⟩ = some (.slice A k.ps.length c)
  c4 : w.cell? ⟨b, 4, none⟩ = some (.int .i64 k.base)
  c5 : w.cell? ⟨b, 5, none⟩ = some (.int .i64 k.last)
structure SBox (w : World) (b : Nat) (s : M.St) : Prop where
  lt : b < w.heap.size
  c0 : w.cell? ⟨b, 0, none⟩ = some (.int .i64 s.ord)
  c1 : w.cell? ⟨b, 1, none⟩ = some (.int .i64 s.lit)
  c2 : w.cell? ⟨b, 2, none⟩ = some (.int .i64 s.most)
theorem KBox.g {w w' : World} {b : Nat} {k : M.Kn} {A : Option Addr} {c : Nat} (h : KBox w b k A c) (hg : G w w') : KBox w' b k A c :=
  ⟨Nat.lt_of_lt_of_le h.lt hg.size, (hg.cell (p := ⟨b, 0, none⟩) h.lt).trans h.c0, (hg.cell (p := ⟨b, 1, none⟩) h.lt).trans h.c1, (hg.cell (p := ⟨b, 2, none⟩) h.lt).trans h.c2,
    (hg.cell (p := ⟨b, 3, none⟩) h.lt).trans h.c3, (hg.cell (p := ⟨b, 4, none⟩) h.lt).trans h.c4, (hg.cell (p := ⟨b, 5, none⟩) h.lt).trans h.c5⟩
theorem SBox.g {w w' : World} {b : Nat} {s : M.St} (h : SBox w b s) (hg : G w w') : SBox w' b s :=
  ⟨Nat.lt_of_lt_of_le h.lt hg.size, (hg.cell (p := ⟨b, 0, none⟩) h.lt).trans h.c0, (hg.cell (p := ⟨b, 1, none⟩) h.lt).trans h.c1, (hg.cell (p := ⟨b, 2, none⟩) h.lt).trans h.c2⟩
theorem KBox.sub {w : World} {b : Nat} {k : M.Kn} {A : Option Addr} {c : Nat} (h : KBox w b k A c) : SBox w b k.s := ⟨h.lt, h.c0, h.c1, h.c2⟩

set_option maxHeartbeats 1000000 in
theorem c_SettingValid_spec (o l m : Int) (w : World) :
    Calls Tryz.prog 57 #[.agg #[.int .i64 o, .int .i64 l, .int .i64 m]] w fun e w' => e = .returned (.bool (M.okS o l m)) ∧ G w w' := by
  obtain ⟨b, hb⟩ : ∃ b, M.okS o l m = b := ⟨_, rfl⟩
  have HB := Lib.hid hb
  rw [hb]; clear hb
  by_cases h0 : o = 0 ∨ o = 1
  · have H0 := Lib.hid h0
    clear h0
    by_cases h1 : 1 ≤ l ∧ l ≤ 8
    · have h2 : 1 ≤ l := h1.1
      have h3 : l ≤ 8 := h1.2
      clear h1
      by_cases h4 : l + 2 ≤ m ∧ m ≤ 10
      · have H4 := Lib.hid h4
        clear h4
        go_enter Tryz.func57, Tryz.ntmps57
        go_wp2_with (first | (go_at_call 70; refine (c_l1Order_b _ true (decide_eq_true H0.out) _).mono ?_; rintro e w' ⟨rfl, rfl⟩) | (go_at_call_of 22 l; refine (c_l1In_b _ _ _ true (by simp; omega) _).mono ?_; rintro e w' ⟨rfl, rfl⟩) | (go_at_call_of 22 m; refine (c_l1In_b _ _ _ true (decide_eq_true H4.out) _).mono ?_; rintro e w' ⟨rfl, rfl⟩))
        go_ret
        exact ⟨ret_bool (by have := H0.out; have := H4.out; rw [← HB.out, Bool.eq_iff_iff]; unfold M.okS; simp; omega), (by repeat' (first | (with_reducible exact G.refl _) | (with_reducible assumption) | (with_reducible refine G.alloc ?_ _) | (with_reducible refine G.drew ?_) | (with_reducible refine G.drewN ?_ _) | (refine G.setCell ?_ (by first | (simp <;> done) | (simp <;> omega)) _) | (with_reducible refine G.trans ?_ (by with_reducible assumption))))⟩
      · have H4 := Lib.hid h4
        clear h4
        go_enter Tryz.func57, Tryz.ntmps57
        go_wp2_with (first | (go_at_call 70; refine (c_l1Order_b _ true (decide_eq_true H0.out) _).mono ?_; rintro e w' ⟨rfl, rfl⟩) | (go_at_call_of 22 l; refine (c_l1In_b _ _ _ true (by simp; omega) _).mono ?_; rintro e w' ⟨rfl, rfl⟩) | (go_at_call_of 22 m; refine (c_l1In_b _ _ _ false (decide_eq_false H4.out) _).mono ?_; rintro e w' ⟨rfl, rfl⟩))
        go_ret
        exact ⟨ret_bool (by have := H0.out; have := H4.out; rw [← HB.out, Bool.eq_iff_iff]; unfold M.okS; simp; omega), (by repeat' (first | (with_reducible exact G.refl _) | (with_reducible assumption) | (with_reducible refine G.alloc ?_ _) | (with_reducible refine G.drew ?_) | (with_reducible refine G.drewN ?_ _) | (refine G.setCell ?_ (by first | (simp <;> done) | (simp <;> omega)) _) | (with_reducible refine G.trans ?_ (by with_reducible assumption))))⟩
    · have H1 := Lib.hid h1
      clear h1
      go_enter Tryz.func57, Tryz.ntmps57
      go_wp2_with (first | (go_at_call 70; refine (c_l1Order_b _ true (decide_eq_true H0.out) _).mono ?_; rintro e w' ⟨rfl, rfl⟩) | (go_at_call 22; refine (c_l1In_b _ _ _ false (decide_eq_false H1.out) _).mono ?_; rintro e w' ⟨rfl, rfl⟩))
      go_ret
      exact ⟨ret_bool (by have := H0.out; have := H1.out; rw [← HB.out, Bool.eq_iff_iff]; unfold M.okS; simp; omega), (by repeat' (first | (with_reducible exact G.refl _) | (with_reducible assumption) | (with_reducible refine G.alloc ?_ _) | (with_reducible refine G.drew ?_) | (with_reducible refine G.drewN ?_ _) | (refine G.setCell ?_ (by first | (simp <;> done) | (simp <;> omega)) _) | (with_reducible refine G.trans ?_ (by with_reducible assumption))))⟩
  · have H0 := Lib.hid h0
    clear h0
    go_enter Tryz.func57, Tryz.ntmps57
    go_wp2_with (first | (go_at_call 70; refine (c_l1Order_b _ false (decide_eq_false H0.out) _).mono ?_; rintro e w' ⟨rfl, rfl⟩))
    go_ret
    exact ⟨ret_bool (by have := H0.out; rw [← HB.out, Bool.eq_iff_iff]; unfold M.okS; simp; omega), (by repeat' (first | (with_reducible exact G.refl _) | (with_reducible assumption) | (with_reducible refine G.alloc ?_ _) | (with_reducible refine G.drew ?_) | (with_reducible refine G.drewN ?_ _) | (refine G.setCell ?_ (by first | (simp <;> done) | (simp <;> omega)) _) | (with_reducible refine G.trans ?_ (by with_reducible assumption))))⟩

section
variable (s : M.St) (hs : s.Ok) (w : World)
include hs
theorem v_SettingValid_spec : Calls Tryz.prog 57 #[stV s] w fun e w' => e = .returned (.bool true) ∧ G w w' :=
  (c_SettingValid_spec _ _ _ w).mono fun _ _ ⟨he, hg⟩ => ⟨by rw [he, hs.okS], hg⟩
theorem v_SettingValid_impl : Calls Tryz.prog 61 #[stV s] w fun e w' => e = .returned (.bool true) ∧ G w w' :=
  (c_SettingValid_impl _ _ _ w).mono fun _ _ ⟨he, hg⟩ => ⟨by rw [he, hs.okS], hg⟩
theorem v_l1Clear : Calls Tryz.prog 71 #[stV s] w fun e w' => e = .returned (.int .i64 s.c) ∧ G w w' := c_l1Clear s hs w
theorem v_l1End : Calls Tryz.prog 93 #[stV s] w fun e w' => e = .returned (.int .i64 s.e) ∧ G w w' := c_l1End s hs w
theorem v_l1Last : Calls Tryz.prog 92 #[stV s] w fun e w' => e = .returned (.int .i64 s.l) ∧ G w w' := c_l1Last s hs w

theorem v_ClearCode : Calls Tryz.prog 80 #[stV s] w fun e w' => e = .returned (.int .i64 s.c) ∧ G w w' := by
  have h8 := hs.lit8
  go_enter Tryz.func80, Tryz.ntmps80
  go_wp2_with (go_at_call 61; refine (v_SettingValid_impl s hs _).mono ?_; rintro e w' ⟨rfl, h1⟩; obtain ⟨hch1, hfh1⟩ := gcell h1; try (have hzh1 : w.heap.size < w'.heap.size := by have := h1.size; (try simp at this); omega); try (have hyh1 : w.heap.size + 1 < w'.heap.size := by have := h1.size; (try simp at this); omega))
  go_ret
  exact ⟨ret_int (wrap_two _ s.c (by omega) rfl), (by repeat' (first | (with_reducible exact G.refl _) | (with_reducible assumption) | (with_reducible refine G.alloc ?_ _) | (with_reducible refine G.drew ?_) | (with_reducible refine G.drewN ?_ _) | (refine G.setCell ?_ (by first | (simp <;> done) | (simp <;> omega)) _) | (with_reducible refine G.trans ?_ (by with_reducible assumption))))⟩
theorem v_EndCode : Calls Tryz.prog 78 #[stV s] w fun e w' => e = .returned (.int .i64 s.e) ∧ G w w' := by
  have h8 := hs.lit8
  go_enter Tryz.func78, Tryz.ntmps78
  go_wp2_with (go_at_call 61; refine (v_SettingValid_impl s hs _).mono ?_; rintro e w' ⟨rfl, h1⟩; obtain ⟨hch1, hfh1⟩ := gcell h1; try (have hzh1 : w.heap.size < w'.heap.size := by have := h1.size; (try simp at this); omega); try (have hyh1 : w.heap.size + 1 < w'.heap.size := by have := h1.size; (try simp at this); omega))
  go_ret
  exact ⟨ret_int (by have := hs.c256; rw [wrap_two _ s.c (by omega) rfl, IntWalk.wrap64_in _ ⟨by omega, by omega⟩, M.St.e_eq]; rfl), (by repeat' (first | (with_reducible exact G.refl _) | (with_reducible assumption) | (with_reducible refine G.alloc ?_ _) | (with_reducible refine G.drew ?_) | (with_reducible refine G.drewN ?_ _) | (refine G.setCell ?_ (by first | (simp <;> done) | (simp <;> omega)) _) | (with_reducible refine G.trans ?_ (by with_reducible assumption))))⟩
theorem v_LastCode : Calls Tryz.prog 77 #[stV s] w fun e w' => e = .returned (.int .i64 s.l) ∧ G w w' := by
  have h8 := hs.most10
  go_enter Tryz.func77, Tryz.ntmps77
  go_wp2_with (go_at_call 61; refine (v_SettingValid_impl s hs _).mono ?_; rintro e w' ⟨rfl, h1⟩; obtain ⟨hch1, hfh1⟩ := gcell h1; try (have hzh1 : w.heap.size < w'.heap.size := by have := h1.size; (try simp at this); omega); try (have hyh1 : w.heap.size + 1 < w'.heap.size := by have := h1.size; (try simp at this); omega))
  go_ret
  exact ⟨ret_int (by have := two20 s.most (by omega); have : 1 ≤ 2 ^ s.most := Nat.one_le_two_pow; rw [wrap_two _ (2 ^ s.most) (by omega) rfl, IntWalk.wrap64_in _ ⟨by omega, by omega⟩]; unfold M.St.l; omega), (by repeat' (first | (with_reducible exact G.refl _) | (with_reducible assumption) | (with_reducible refine G.alloc ?_ _) | (with_reducible refine G.drew ?_) | (with_reducible refine G.drewN ?_ _) | (refine G.setCell ?_ (by first | (simp <;> done) | (simp <;> omega)) _) | (with_reducible refine G.trans ?_ (by with_reducible assumption))))⟩
end
end Go.Proofs.YtlaijbkonapdbaaGreat

namespace Go.Proofs
open Go.Shelf
def Tryz.lays169_ren : Go.Shelf.Ren := ⟨fun | 169 => 33 | n => n, fun | 70 => 59 | 9 => 9 | 0 => 0 | 72 => 62 | 37 => 60 | 127 => 79 | 3 => 3 | 5 => 5 | n => n, fun | n => n⟩
theorem Tryz.lays169 : Go.Proofs.Lays.n169 Tryz.prog Tryz.lays169_ren := {
  mixed := by kernel_rfl
  f169 := Tryz.func33.trans (congrArg some (by kernel_rfl))
  t0 := Tryz.underlying0
  a0 := Tryz.isAgg0
  z0 := Tryz.sizeOf0
  v0 := Tryz.zeroValue0
  t3 := Tryz.underlying3
  a3 := Tryz.isAgg3
  z3 := Tryz.sizeOf3
  v3 := Tryz.zeroValue3
  t9 := Tryz.underlying9
  a9 := Tryz.isAgg9
  z9 := Tryz.sizeOf9
  v9 := Tryz.zeroValue9
  t37 := Tryz.underlying60
  a37 := Tryz.isAgg60
  z37 := Tryz.sizeOf60
  v37 := Tryz.zeroValue60
  t70 := Tryz.underlying59
  a70 := Tryz.isAgg59
  z70 := Tryz.sizeOf59
  v70 := Tryz.zeroValue59
  t72 := Tryz.underlying62
  a72 := Tryz.isAgg62
  z72 := Tryz.sizeOf62
  v72 := Tryz.zeroValue62
  t127 := Tryz.underlying79
  a127 := Tryz.isAgg79
  z127 := Tryz.sizeOf79
  v127 := Tryz.zeroValue79 }
theorem Tryz.Builder_Extra_169 : Builder.Extra Tryz.prog Tryz.lays169_ren := {
  sizeBuilder := by kernel_rfl
  liesBuilder := by kernel_rfl
  t5 := Tryz.underlying5
  a5 := Tryz.isAgg5
  z5 := Tryz.sizeOf5
  v5 := Tryz.zeroValue5
  infoByte := by kernel_rfl
  cellsByte := by kernel_rfl
  sizeByte := by kernel_rfl
  neB5 := by decide }
open Go.RowKit in
/-- (*strings.Builder).String: "String returns the accumulated string.": OF A BUILDER THAT HOLDS AT LEAST ONE BYTE. ✋ THE MODEL FREEZES THOSE BYTES IN THE BUFFER (unsafe.String): a later write INTO them ends the model's run without an answer; a later append BEHIND them goes on. The statement's order of evaluation is drawn: one draw. (LAID: no walk: one application.) -/
theorem Tryz.Builder_String (B b : Nat) (l : List UInt8) (w : World) (h : Lib.IsBuilder 62 5 B b (Lib.byteCells l) w) (h0 : l ≠ []) :
    Calls Tryz.prog 33 #[.pointer (some ⟨b, 0, none⟩)] w fun e w' => e = .returned (.string ⟨l.toArray⟩) ∧ Below B w w' := Any.Builder_String Tryz.lays169 Tryz.Builder_Extra_169 B b l w h h0
open Go.RowKit in
/-- (*strings.Builder).String OF A BUILDER THAT HOLDS NO BYTE: the empty string. (Its buffer is nil, or a row of which it has taken nothing yet; where that row has NO capacity the model lays one new block for unsafe.SliceData's 'some address'.) One draw. (LAID: no walk: one application.) -/
theorem Tryz.Builder_String_empty (B b : Nat) (w : World) (h : Lib.IsBuilder 62 5 B b [] w) (hBw : B ≤ w.heap.size) :
    Calls Tryz.prog 33 #[.pointer (some ⟨b, 0, none⟩)] w fun e w' => e = .returned (.string ⟨#[]⟩) ∧ Below B w w' := Any.Builder_String_empty Tryz.lays169 Tryz.Builder_Extra_169 B b w h hBw
open Go.RowKit in
/-- (*strings.Builder).String: "String returns the accumulated string.": WHATEVER THE BUILDER HOLDS. (LAID: no walk: one application.) -/
theorem Tryz.Builder_String_any (B b : Nat) (l : List UInt8) (w : World) (h : Lib.IsBuilder 62 5 B b (Lib.byteCells l) w) (hBw : B ≤ w.heap.size) :
    Calls Tryz.prog 33 #[.pointer (some ⟨b, 0, none⟩)] w fun e w' => e = .returned (.string ⟨l.toArray⟩) ∧ Below B w w' := Any.Builder_String_any Tryz.lays169 Tryz.Builder_Extra_169 B b l w h hBw
def Tryz.lays128_ren : Go.Shelf.Ren := ⟨fun | 128 => 144 | n => n, fun | 51 => 152 | 3 => 3 | 4 => 4 | 46 => 89 | 5 => 5 | 9 => 9 | n => n, fun | n => n⟩
theorem Tryz.lays128 : Go.Proofs.Lays.n128 Tryz.prog Tryz.lays128_ren := {
  mixed := by kernel_rfl
  f128 := Tryz.func144.trans (congrArg some (by kernel_rfl))
  t3 := Tryz.underlying3
  a3 := Tryz.isAgg3
  z3 := Tryz.sizeOf3
  v3 := Tryz.zeroValue3
  t4 := Tryz.underlying4
  a4 := Tryz.isAgg4
  z4 := Tryz.sizeOf4
  v4 := Tryz.zeroValue4
  t5 := Tryz.underlying5
  a5 := Tryz.isAgg5
  z5 := Tryz.sizeOf5
  v5 := Tryz.zeroValue5
  t9 := Tryz.underlying9
  a9 := Tryz.isAgg9
  z9 := Tryz.sizeOf9
  v9 := Tryz.zeroValue9
  t46 := Tryz.underlying89
  a46 := Tryz.isAgg89
  z46 := Tryz.sizeOf89
  v46 := Tryz.zeroValue89
  t51 := Tryz.underlying152
  a51 := Tryz.isAgg152
  z51 := Tryz.sizeOf152
  v51 := Tryz.zeroValue152 }
/-- bits.Len32: "Len32 returns the minimum number of bits required to represent x; the result is 0 for x == 0.": IT RETURNS 'Lib.bitLen x'; the world is as it was. ('h0', 'h1': x is a uint32.) (LAID: no walk: one application.) -/
theorem Tryz.bits_Len32 (x : Int) (w : World) (h0 : 0 ≤ x) (h1 : x ≤ 4294967295) :
    Calls Tryz.prog 144 #[.int .u32 x] w fun e w' => e = .returned (.int .i64 (Lib.bitLen x.toNat)) ∧ w' = w := Any.bits_Len32 Tryz.lays128 x w h0 h1
def Tryz.lays125_ren : Go.Shelf.Ren := ⟨fun | 125 => 143 | 128 => 144 | 129 => 145 | n => n, fun | 46 => 89 | 3 => 3 | 51 => 152 | 53 => 154 | 4 => 4 | 5 => 5 | 9 => 9 | n => n, fun | n => n⟩
theorem Tryz.lays125 : Go.Proofs.Lays.n125 Tryz.prog Tryz.lays125_ren := {
  mixed := by kernel_rfl
  f125 := Tryz.func143.trans (congrArg some (by kernel_rfl))
  f128 := Tryz.func144.trans (congrArg some (by kernel_rfl))
  f129 := Tryz.func145.trans (congrArg some (by kernel_rfl))
  t3 := Tryz.underlying3
  a3 := Tryz.isAgg3
  z3 := Tryz.sizeOf3
  v3 := Tryz.zeroValue3
  t4 := Tryz.underlying4
  a4 := Tryz.isAgg4
  z4 := Tryz.sizeOf4
  v4 := Tryz.zeroValue4
  t5 := Tryz.underlying5
  a5 := Tryz.isAgg5
  z5 := Tryz.sizeOf5
  v5 := Tryz.zeroValue5
  t9 := Tryz.underlying9
  a9 := Tryz.isAgg9
  z9 := Tryz.sizeOf9
  v9 := Tryz.zeroValue9
  t46 := Tryz.underlying89
  a46 := Tryz.isAgg89
  z46 := Tryz.sizeOf89
  v46 := Tryz.zeroValue89
  t51 := Tryz.underlying152
  a51 := Tryz.isAgg152
  z51 := Tryz.sizeOf152
  v51 := Tryz.zeroValue152
  t53 := Tryz.underlying154
  a53 := Tryz.isAgg154
  z53 := Tryz.sizeOf154
  v53 := Tryz.zeroValue154 }
/-- bits.Len: "Len returns the minimum number of bits required to represent x; the result is 0 for x == 0.": IT RETURNS 'Lib.bitLen x'; the world is as it was. (A uint has 64 bits in the model.) ITS CALLEE bits.Len64 IS MET BY ITS OWN CONTRACT OFF THE SHELF (lay that first). (LAID: no walk: one application.) -/
theorem Tryz.bits_Len (x : Int) (w : World) (h0 : 0 ≤ x) (h1 : x ≤ 18446744073709551615) :
    Calls Tryz.prog 143 #[.int .u64 x] w fun e w' => e = .returned (.int .i64 (Lib.bitLen x.toNat)) ∧ w' = w := Any.bits_Len Tryz.lays125 x w h0 h1
open Go.RowKit in
/-- (*strings.Builder).String: "String returns the accumulated string.": OF A BUILDER THAT HOLDS AT LEAST ONE BYTE. ✋ THE MODEL FREEZES THOSE BYTES IN THE BUFFER (unsafe.String): a later write INTO them ends the model's run without an answer; a later append BEHIND them goes on. The statement's order of evaluation is drawn: one draw. THE FORM '_f': IT SAYS BESIDES THAT THE BUILDER IS A BUILDER STILL ('Lib.IsBuilderF', the same bytes): SO IT CAN BE WRITTEN ON: 'b.WriteString(b.String()[:k])'. (LAID: no walk: one application.) -/
theorem Tryz.Builder_String_f (B b : Nat) (l : List UInt8) (w : World) (h : Lib.IsBuilderF 62 5 B b (Lib.byteCells l) w) (h0 : l ≠ []) :
    Calls Tryz.prog 33 #[.pointer (some ⟨b, 0, none⟩)] w fun e w' => e = .returned (.string ⟨l.toArray⟩) ∧ (Lib.IsBuilderF 62 5 B b (Lib.byteCells l) w' ∧ Below B w w') := Any.Builder_String_f Tryz.lays169 Tryz.Builder_Extra_169 B b l w h h0
open Go.RowKit in
/-- (*strings.Builder).String OF A BUILDER THAT HOLDS NO BYTE: the empty string; THE FORM '_f': a builder still. (LAID: no walk: one application.) -/
theorem Tryz.Builder_String_empty_f (B b : Nat) (w : World) (h : Lib.IsBuilderF 62 5 B b [] w) (hBw : B ≤ w.heap.size) :
    Calls Tryz.prog 33 #[.pointer (some ⟨b, 0, none⟩)] w fun e w' => e = .returned (.string ⟨#[]⟩) ∧ (Lib.IsBuilderF 62 5 B b [] w' ∧ Below B w w') := Any.Builder_String_empty_f Tryz.lays169 Tryz.Builder_Extra_169 B b w h hBw
open Go.RowKit in
/-- (*strings.Builder).String: "String returns the accumulated string.": WHATEVER THE BUILDER HOLDS; THE FORM '_f': OF A BUILDER THAT MAY HAVE BEEN READ BEFORE; AND IT IS A BUILDER STILL, holding the same bytes: it can be written on. (LAID: no walk: one application.) -/
theorem Tryz.Builder_String_any_f (B b : Nat) (l : List UInt8) (w : World) (h : Lib.IsBuilderF 62 5 B b (Lib.byteCells l) w) (hBw : B ≤ w.heap.size) :
    Calls Tryz.prog 33 #[.pointer (some ⟨b, 0, none⟩)] w fun e w' => e = .returned (.string ⟨l.toArray⟩) ∧ (Lib.IsBuilderF 62 5 B b (Lib.byteCells l) w' ∧ Below B w w') := Any.Builder_String_any_f Tryz.lays169 Tryz.Builder_Extra_169 B b l w h hBw
open Go.RowKit in
/-- (*strings.Builder).String: "String returns the accumulated string.": OF A BUILDER THAT HOLDS AT LEAST ONE BYTE. ✋ THE MODEL FREEZES THOSE BYTES IN THE BUFFER (unsafe.String): a later write INTO them ends the model's run without an answer; a later append BEHIND them goes on. The statement's order of evaluation is drawn: one draw. THE FORM '_k': OVER 'Lib.IsBuilderF' (a builder that 'String()' may have read), AND WITH THE FRAME THAT REACHES ABOVE THE BUILDER: 'Lib.OthersKept': every block that is not b and is no row of uint8's stands as it stood: the iterator of a range among them. (LAID: no walk: one application.) -/
theorem Tryz.Builder_String_k (B b : Nat) (l : List UInt8) (w : World) (h : Lib.IsBuilderF 62 5 B b (Lib.byteCells l) w) (h0 : l ≠ []) :
    Calls Tryz.prog 33 #[.pointer (some ⟨b, 0, none⟩)] w fun e w' => e = .returned (.string ⟨l.toArray⟩) ∧ (Lib.IsBuilderF 62 5 B b (Lib.byteCells l) w' ∧ Below B w w' ∧ Lib.OthersKept 5 (some b) w w') := Any.Builder_String_k Tryz.lays169 Tryz.Builder_Extra_169 B b l w h h0
open Go.RowKit in
/-- (*strings.Builder).String OF A BUILDER THAT HOLDS NO BYTE: the empty string; THE FORM '_k': OVER 'Lib.IsBuilderF' (a builder that 'String()' may have read), AND WITH THE FRAME THAT REACHES ABOVE THE BUILDER: 'Lib.OthersKept': every block that is not b and is no row of uint8's stands as it stood: the iterator of a range among them. (LAID: no walk: one application.) -/
theorem Tryz.Builder_String_empty_k (B b : Nat) (w : World) (h : Lib.IsBuilderF 62 5 B b [] w) (hBw : B ≤ w.heap.size) :
    Calls Tryz.prog 33 #[.pointer (some ⟨b, 0, none⟩)] w fun e w' => e = .returned (.string ⟨#[]⟩) ∧ (Lib.IsBuilderF 62 5 B b [] w' ∧ Below B w w' ∧ Lib.OthersKept 5 (some b) w w') := Any.Builder_String_empty_k Tryz.lays169 Tryz.Builder_Extra_169 B b w h hBw
open Go.RowKit in
/-- (*strings.Builder).String: "String returns the accumulated string.": WHATEVER THE BUILDER HOLDS; THE FORM '_k': OVER 'Lib.IsBuilderF' (a builder that 'String()' may have read), AND WITH THE FRAME THAT REACHES ABOVE THE BUILDER: 'Lib.OthersKept': every block that is not b and is no row of uint8's stands as it stood: the iterator of a range among them. (LAID: no walk: one application.) -/
theorem Tryz.Builder_String_any_k (B b : Nat) (l : List UInt8) (w : World) (h : Lib.IsBuilderF 62 5 B b (Lib.byteCells l) w) (hBw : B ≤ w.heap.size) :
    Calls Tryz.prog 33 #[.pointer (some ⟨b, 0, none⟩)] w fun e w' => e = .returned (.string ⟨l.toArray⟩) ∧ (Lib.IsBuilderF 62 5 B b (Lib.byteCells l) w' ∧ Below B w w' ∧ Lib.OthersKept 5 (some b) w w') := Any.Builder_String_any_k Tryz.lays169 Tryz.Builder_Extra_169 B b l w h hBw
def Tryz.lays129_ren : Go.Shelf.Ren := ⟨fun | 129 => 145 | n => n, fun | 53 => 154 | 3 => 3 | 4 => 4 | 46 => 89 | 5 => 5 | 9 => 9 | n => n, fun | n => n⟩
theorem Tryz.lays129 : Go.Proofs.Lays.n129 Tryz.prog Tryz.lays129_ren := {
  mixed := by kernel_rfl
  f129 := Tryz.func145.trans (congrArg some (by kernel_rfl))
  t3 := Tryz.underlying3
  a3 := Tryz.isAgg3
  z3 := Tryz.sizeOf3
  v3 := Tryz.zeroValue3
  t4 := Tryz.underlying4
  a4 := Tryz.isAgg4
  z4 := Tryz.sizeOf4
  v4 := Tryz.zeroValue4
  t5 := Tryz.underlying5
  a5 := Tryz.isAgg5
  z5 := Tryz.sizeOf5
  v5 := Tryz.zeroValue5
  t9 := Tryz.underlying9
  a9 := Tryz.isAgg9
  z9 := Tryz.sizeOf9
  v9 := Tryz.zeroValue9
  t46 := Tryz.underlying89
  a46 := Tryz.isAgg89
  z46 := Tryz.sizeOf89
  v46 := Tryz.zeroValue89
  t53 := Tryz.underlying154
  a53 := Tryz.isAgg154
  z53 := Tryz.sizeOf154
  v53 := Tryz.zeroValue154 }
/-- bits.Len64: "Len64 returns the minimum number of bits required to represent x; the result is 0 for x == 0.": IT RETURNS 'Lib.bitLen x'; the world is as it was. ('h0', 'h1': x is a uint64.) (LAID: no walk: one application.) -/
theorem Tryz.bits_Len64 (x : Int) (w : World) (h0 : 0 ≤ x) (h1 : x ≤ 18446744073709551615) :
    Calls Tryz.prog 145 #[.int .u64 x] w fun e w' => e = .returned (.int .i64 (Lib.bitLen x.toNat)) ∧ w' = w := Any.bits_Len64 Tryz.lays129 x w h0 h1
end Go.Proofs

namespace Go.Proofs.YtlaijbkonapdbaaGreat
open Go.RowKit
attribute [local go_sem] grow_cell grow_frozen

theorem needed_bitLen (n : Nat) (hn : n < 2 ^ 64) : M.needed n = max 1 (Lib.bitLen n) := by
  induction n using Nat.strongRecOn with
  | _ n ih =>
    by_cases h2 : n < 2
    · rw [M.needed_lt n h2]
      rcases (show n = 0 ∨ n = 1 by omega) with rfl | rfl
      · decide
      · decide
    · rw [M.needed_ge n (by omega), ih (n / 2) (by omega) (by omega), Lib.bitLen_half n (by omega) hn]
      by_cases h4 : n / 2 < 2
      · have : n / 2 = 1 := by omega
        rw [this]; decide
      · rw [Lib.bitLen_half (n / 2) (by omega) (by omega)]; omega

theorem c_BitsNeeded (n : Nat) (hn : n ≤ 100000) (w : World) : Calls Tryz.prog 138 #[.int .i64 n] w fun e w' => e = .returned (.int .i64 (M.needed n)) ∧ w = w' := by
  have HN := Lib.hid (needed_bitLen n (by omega))
  go_enter Tryz.func138, Tryz.ntmps138
  go_wp2_with (go_at_call 143; refine (Tryz.bits_Len _ _ (by omega) (by omega)).mono ?_; rintro e w' ⟨rfl, rfl⟩)
  go_ret
  exact ⟨ret_int (by rw [HN.out]; omega), rfl⟩

theorem c_l1Needed (n : Nat) (hn : n ≤ 100000) (w : World) : Calls Tryz.prog 142 #[.int .i64 n] w fun e w' => e = .returned (.int .i64 (M.needed n)) ∧ w = w' := by
  go_enter Tryz.func142, Tryz.ntmps142
  go_wp2
  go_loop [0, 3] (fun a b => ∃ m o : Nat, a = .int .i64 m ∧ b = .int .i64 o ∧ m ≤ n ∧ o + m ≤ n + 1 ∧ Hid (M.needed n + 1 = M.needed m + o)) (fun a _ => (intOf a).toNat)
  case atStart => exact ⟨n, 1, rfl, rfl, by omega, by omega, rfl⟩
  case round =>
    obtain ⟨m, o, rfl, rfl, hm, ho, H⟩ := hrel
    by_cases h2 : 2 ≤ m
    · go_wp2
      go_round
      case rel => exact ⟨m / 2, o + 1, by go_num, by go_num, by omega, by omega, by have := H.out; rw [M.needed_ge m h2] at this; show _ = _; omega⟩
      case measure => simp [intOf]; omega
    · go_wp2
      go_ret
      exact ⟨ret_int (by have := H.out; rw [M.needed_lt m (by omega)] at this; omega), rfl⟩

section
variable (k : M.Kn) (hk : k.V) (A : Option Addr) (c : Nat) (w : World)
include hk

theorem v_l2Next : Calls Tryz.prog 119 #[knV k A c] w fun e w' => e = .returned (.int .i64 k.nxt) ∧ G w w' := by
  have hs := hk.s
  have hc := hs.c256
  have hl := hs.l1024
  have hn := hk.nxt_le
  have hx2 : k.s.c + 2 + k.ps.length ≤ 1024 := by unfold M.Kn.nxt at hn; omega
  have HX : Hid ((k.nxt : Int) = k.s.c + 2 + k.ps.length) := by unfold Hid M.Kn.nxt; omega
  have HE := Lib.hid (M.St.e_eq k.s)
  have he : k.s.e ≤ 2000 := by have := HE.out; omega
  clear hn
  go_enter Tryz.func119, Tryz.ntmps119
  go_wp2
  go_region_held3 (fun w' => w'.cell? ⟨w.heap.size, 0, none⟩ = some (.int .i64 k.s.ord) ∧ w'.cell? ⟨w.heap.size, 1, none⟩ = some (.int .i64 k.s.lit) ∧ w'.cell? ⟨w.heap.size, 2, none⟩ = some (.int .i64 k.s.most) ∧ w'.cell? ⟨w.heap.size, 3, none⟩ = some (.slice A k.ps.length c) ∧ w'.cell? ⟨w.heap.size, 4, none⟩ = some (.int .i64 k.base) ∧ w'.cell? ⟨w.heap.size, 5, none⟩ = some (.int .i64 k.last)) (go_keep) ((go_at_call 93; refine (v_l1End k.s hs _).mono ?_; rintro e w' ⟨rfl, h1⟩; obtain ⟨hch1, hfh1⟩ := gcell h1; try (have hzh1 : w.heap.size < w'.heap.size := by have := h1.size; (try simp at this); omega); try (have hyh1 : w.heap.size + 1 < w'.heap.size := by have := h1.size; (try simp at this); omega)))
  go_wp2
  go_ret
  exact ⟨ret_int (by have := HX.out; have := HE.out; go_unwrap; omega), (by repeat' (first | (with_reducible exact G.refl _) | (with_reducible assumption) | (with_reducible refine G.alloc ?_ _) | (with_reducible refine G.drew ?_) | (with_reducible refine G.drewN ?_ _) | (refine G.setCell ?_ (by first | (simp <;> done) | (simp <;> omega)) _) | (with_reducible refine G.trans ?_ (by with_reducible assumption))))⟩
theorem v_nextWord : Calls Tryz.prog 100 #[knV k A c] w fun e w' => e = .returned (.int .i64 k.nxt) ∧ G w w' := by
  have hs := hk.s
  have hc := hs.c256
  have hl := hs.l1024
  have hn := hk.nxt_le
  have hx2 : k.s.c + 2 + k.ps.length ≤ 1024 := by unfold M.Kn.nxt at hn; omega
  have HX : Hid ((k.nxt : Int) = k.s.c + 2 + k.ps.length) := by unfold Hid M.Kn.nxt; omega
  have HE := Lib.hid (M.St.e_eq k.s)
  have he : k.s.e ≤ 2000 := by have := HE.out; omega
  clear hn
  go_enter Tryz.func100, Tryz.ntmps100
  go_wp2
  go_region_held3 (fun w' => w'.cell? ⟨w.heap.size, 0, none⟩ = some (.int .i64 k.s.ord) ∧ w'.cell? ⟨w.heap.size, 1, none⟩ = some (.int .i64 k.s.lit) ∧ w'.cell? ⟨w.heap.size, 2, none⟩ = some (.int .i64 k.s.most) ∧ w'.cell? ⟨w.heap.size, 3, none⟩ = some (.slice A k.ps.length c) ∧ w'.cell? ⟨w.heap.size, 4, none⟩ = some (.int .i64 k.base) ∧ w'.cell? ⟨w.heap.size, 5, none⟩ = some (.int .i64 k.last)) (go_keep) ((go_at_call 78; refine (v_EndCode k.s hs _).mono ?_; rintro e w' ⟨rfl, h1⟩; obtain ⟨hch1, hfh1⟩ := gcell h1; try (have hzh1 : w.heap.size < w'.heap.size := by have := h1.size; (try simp at this); omega); try (have hyh1 : w.heap.size + 1 < w'.heap.size := by have := h1.size; (try simp at this); omega)))
  go_wp2
  go_ret
  exact ⟨ret_int (by have := HX.out; have := HE.out; go_unwrap; omega), (by repeat' (first | (with_reducible exact G.refl _) | (with_reducible assumption) | (with_reducible refine G.alloc ?_ _) | (with_reducible refine G.drew ?_) | (with_reducible refine G.drewN ?_ _) | (refine G.setCell ?_ (by first | (simp <;> done) | (simp <;> omega)) _) | (with_reducible refine G.trans ?_ (by with_reducible assumption))))⟩
end
section
variable (k : M.Kn) (hk : k.V) (A : Option Addr) (c : Nat) (w : World) (b : Bool) (hb : k.grows = b)
include hk hb
theorem v_l2Grows : Calls Tryz.prog 132 #[knV k A c] w fun e w' => e = .returned (.bool b) ∧ G w w' := by
  have hs := hk.s
  by_cases h0 : k.last = -1
  · have hb' : b = false := by rw [← hb]; simp [M.Kn.grows, h0]
    subst hb'
    have h1 : k.last < 0 := by omega
    have hd : decide (0 ≤ k.last) = false := by simp; omega
    clear h0 hb
    go_enter Tryz.func132, Tryz.ntmps132
    go_wp2
    go_quiet (fail)
    go_wp2
    go_ret
    exact ⟨rfl, (by repeat' (first | (with_reducible exact G.refl _) | (with_reducible assumption) | (with_reducible refine G.alloc ?_ _) | (with_reducible refine G.drew ?_) | (with_reducible refine G.drewN ?_ _) | (refine G.setCell ?_ (by first | (simp <;> done) | (simp <;> omega)) _) | (with_reducible refine G.trans ?_ (by with_reducible assumption))))⟩
  · have h1 : 0 ≤ k.last := by rcases hk.last with ⟨h, _⟩ | ⟨h, _⟩ <;> omega
    have hd : decide (0 ≤ k.last) = true := by simp; omega
    have HB : Hid (b = decide (k.nxt ≤ k.s.l)) := by unfold Hid; rw [← hb]; simp [M.Kn.grows, h0]
    clear h0 hb
    go_enter Tryz.func132, Tryz.ntmps132
    go_wp2
    go_region_held3 (fun w' => w'.cell? ⟨w.heap.size, 0, none⟩ = some (.int .i64 k.s.ord) ∧ w'.cell? ⟨w.heap.size, 1, none⟩ = some (.int .i64 k.s.lit) ∧ w'.cell? ⟨w.heap.size, 2, none⟩ = some (.int .i64 k.s.most) ∧ w'.cell? ⟨w.heap.size, 3, none⟩ = some (.slice A k.ps.length c) ∧ w'.cell? ⟨w.heap.size, 4, none⟩ = some (.int .i64 k.base) ∧ w'.cell? ⟨w.heap.size, 5, none⟩ = some (.int .i64 k.last)) (go_keep) (first | (go_at_call 119; refine (v_l2Next k hk A c _).mono ?_; rintro e w' ⟨rfl, h1⟩; obtain ⟨hch1, hfh1⟩ := gcell h1; try (have hzh1 : w.heap.size < w'.heap.size := by have := h1.size; (try simp at this); omega); try (have hyh1 : w.heap.size + 1 < w'.heap.size := by have := h1.size; (try simp at this); omega)) | (go_at_call 92; refine (v_l1Last k.s hs _).mono ?_; rintro e w' ⟨rfl, h2⟩; obtain ⟨hch2, hfh2⟩ := gcell h2; try (have hzh2 : w.heap.size < w'.heap.size := by have := h2.size; (try simp at this); omega); try (have hyh2 : w.heap.size + 1 < w'.heap.size := by have := h2.size; (try simp at this); omega)))
    go_wp2
    go_ret
    exact ⟨ret_bool (by rw [HB.out]), (by repeat' (first | (with_reducible exact G.refl _) | (with_reducible assumption) | (with_reducible refine G.alloc ?_ _) | (with_reducible refine G.drew ?_) | (with_reducible refine G.drewN ?_ _) | (refine G.setCell ?_ (by first | (simp <;> done) | (simp <;> omega)) _) | (with_reducible refine G.trans ?_ (by with_reducible assumption))))⟩
theorem v_grows : Calls Tryz.prog 83 #[knV k A c] w fun e w' => e = .returned (.bool b) ∧ G w w' := by
  have hs := hk.s
  by_cases h0 : k.last = -1
  · have hb' : b = false := by rw [← hb]; simp [M.Kn.grows, h0]
    subst hb'
    have hd : (k.last != -1) = false := by simp [h0]
    have H0 := Lib.hid h0
    clear h0 hb
    go_enter Tryz.func83, Tryz.ntmps83
    go_wp2
    go_quiet (fail)
    go_wp2
    go_ret
    exact ⟨rfl, (by repeat' (first | (with_reducible exact G.refl _) | (with_reducible assumption) | (with_reducible refine G.alloc ?_ _) | (with_reducible refine G.drew ?_) | (with_reducible refine G.drewN ?_ _) | (refine G.setCell ?_ (by first | (simp <;> done) | (simp <;> omega)) _) | (with_reducible refine G.trans ?_ (by with_reducible assumption))))⟩
  · have hd : (k.last != -1) = true := by simp [h0]
    have HB : Hid (b = decide (k.nxt ≤ k.s.l)) := by unfold Hid; rw [← hb]; simp [M.Kn.grows, h0]
    clear h0 hb
    go_enter Tryz.func83, Tryz.ntmps83
    go_wp2
    go_region_held3 (fun w' => w'.cell? ⟨w.heap.size, 0, none⟩ = some (.int .i64 k.s.ord) ∧ w'.cell? ⟨w.heap.size, 1, none⟩ = some (.int .i64 k.s.lit) ∧ w'.cell? ⟨w.heap.size, 2, none⟩ = some (.int .i64 k.s.most) ∧ w'.cell? ⟨w.heap.size, 3, none⟩ = some (.slice A k.ps.length c) ∧ w'.cell? ⟨w.heap.size, 4, none⟩ = some (.int .i64 k.base) ∧ w'.cell? ⟨w.heap.size, 5, none⟩ = some (.int .i64 k.last)) (go_keep) (first | (go_at_call 100; refine (v_nextWord k hk A c _).mono ?_; rintro e w' ⟨rfl, h1⟩; obtain ⟨hch1, hfh1⟩ := gcell h1; try (have hzh1 : w.heap.size < w'.heap.size := by have := h1.size; (try simp at this); omega); try (have hyh1 : w.heap.size + 1 < w'.heap.size := by have := h1.size; (try simp at this); omega)) | (go_at_call 77; refine (v_LastCode k.s hs _).mono ?_; rintro e w' ⟨rfl, h2⟩; obtain ⟨hch2, hfh2⟩ := gcell h2; try (have hzh2 : w.heap.size < w'.heap.size := by have := h2.size; (try simp at this); omega); try (have hyh2 : w.heap.size + 1 < w'.heap.size := by have := h2.size; (try simp at this); omega)))
    go_wp2
    go_ret
    exact ⟨ret_bool (by rw [HB.out]), (by repeat' (first | (with_reducible exact G.refl _) | (with_reducible assumption) | (with_reducible refine G.alloc ?_ _) | (with_reducible refine G.drew ?_) | (with_reducible refine G.drewN ?_ _) | (refine G.setCell ?_ (by first | (simp <;> done) | (simp <;> omega)) _) | (with_reducible refine G.trans ?_ (by with_reducible assumption))))⟩
end
section
variable (k : M.Kn) (hk : k.V) (A : Option Addr) (c : Nat) (w : World)
include hk
theorem v_l2Greatest : Calls Tryz.prog 130 #[knV k A c] w fun e w' => e = .returned (.int .i64 k.greatest) ∧ G w w' := by
  have hn : k.nxt ≤ 1024 := by have := hk.nxt_le; have := hk.s.l1024; omega
  have hn1 : 1 ≤ k.nxt := by unfold M.Kn.nxt; omega
  obtain ⟨b, hb⟩ : ∃ b, k.grows = b := ⟨_, rfl⟩
  have HB := Lib.hid hb
  clear hb
  cases b
  · go_enter Tryz.func130, Tryz.ntmps130
    go_wp2_with (first | (go_at_call 132; refine (v_l2Grows k hk A c _ false HB.out).mono ?_; rintro e w' ⟨rfl, h1⟩; obtain ⟨hch1, hfh1⟩ := gcell h1; try (have hzh1 : w.heap.size < w'.heap.size := by have := h1.size; (try simp at this); omega); try (have hyh1 : w.heap.size + 1 < w'.heap.size := by have := h1.size; (try simp at this); omega)) | (go_at_call 119; refine (v_l2Next k hk A c _).mono ?_; rintro e w' ⟨rfl, h2⟩; obtain ⟨hch2, hfh2⟩ := gcell h2; try (have hzh2 : w.heap.size < w'.heap.size := by have := h2.size; (try simp at this); omega); try (have hyh2 : w.heap.size + 1 < w'.heap.size := by have := h2.size; (try simp at this); omega)))
    go_ret
    exact ⟨ret_int (by have := HB.out; unfold M.Kn.greatest; rw [this]; simp only [Bool.false_eq_true, if_false]; omega), (by repeat' (first | (with_reducible exact G.refl _) | (with_reducible assumption) | (with_reducible refine G.alloc ?_ _) | (with_reducible refine G.drew ?_) | (with_reducible refine G.drewN ?_ _) | (refine G.setCell ?_ (by first | (simp <;> done) | (simp <;> omega)) _) | (with_reducible refine G.trans ?_ (by with_reducible assumption))))⟩
  · go_enter Tryz.func130, Tryz.ntmps130
    go_wp2_with (first | (go_at_call 132; refine (v_l2Grows k hk A c _ true HB.out).mono ?_; rintro e w' ⟨rfl, h1⟩; obtain ⟨hch1, hfh1⟩ := gcell h1; try (have hzh1 : w.heap.size < w'.heap.size := by have := h1.size; (try simp at this); omega); try (have hyh1 : w.heap.size + 1 < w'.heap.size := by have := h1.size; (try simp at this); omega)) | (go_at_call 119; refine (v_l2Next k hk A c _).mono ?_; rintro e w' ⟨rfl, h2⟩; obtain ⟨hch2, hfh2⟩ := gcell h2; try (have hzh2 : w.heap.size < w'.heap.size := by have := h2.size; (try simp at this); omega); try (have hyh2 : w.heap.size + 1 < w'.heap.size := by have := h2.size; (try simp at this); omega)))
    go_ret
    exact ⟨ret_int (by have := HB.out; unfold M.Kn.greatest; rw [this]; simp), (by repeat' (first | (with_reducible exact G.refl _) | (with_reducible assumption) | (with_reducible refine G.alloc ?_ _) | (with_reducible refine G.drew ?_) | (with_reducible refine G.drewN ?_ _) | (refine G.setCell ?_ (by first | (simp <;> done) | (simp <;> omega)) _) | (with_reducible refine G.trans ?_ (by with_reducible assumption))))⟩
theorem v_greatest : Calls Tryz.prog 137 #[knV k A c] w fun e w' => e = .returned (.int .i64 k.greatest) ∧ G w w' := by
  have hn : k.nxt ≤ 1024 := by have := hk.nxt_le; have := hk.s.l1024; omega
  have hn1 : 1 ≤ k.nxt := by unfold M.Kn.nxt; omega
  obtain ⟨b, hb⟩ : ∃ b, k.grows = b := ⟨_, rfl⟩
  have HB := Lib.hid hb
  clear hb
  cases b
  · go_enter Tryz.func137, Tryz.ntmps137
    go_wp2_with (first | (go_at_call 83; refine (v_grows k hk A c _ false HB.out).mono ?_; rintro e w' ⟨rfl, h1⟩; obtain ⟨hch1, hfh1⟩ := gcell h1; try (have hzh1 : w.heap.size < w'.heap.size := by have := h1.size; (try simp at this); omega); try (have hyh1 : w.heap.size + 1 < w'.heap.size := by have := h1.size; (try simp at this); omega)) | (go_at_call 100; refine (v_nextWord k hk A c _).mono ?_; rintro e w' ⟨rfl, h2⟩; obtain ⟨hch2, hfh2⟩ := gcell h2; try (have hzh2 : w.heap.size < w'.heap.size := by have := h2.size; (try simp at this); omega); try (have hyh2 : w.heap.size + 1 < w'.heap.size := by have := h2.size; (try simp at this); omega)))
    go_ret
    exact ⟨ret_int (by have := HB.out; unfold M.Kn.greatest; rw [this]; simp only [Bool.false_eq_true, if_false]; omega), (by repeat' (first | (with_reducible exact G.refl _) | (with_reducible assumption) | (with_reducible refine G.alloc ?_ _) | (with_reducible refine G.drew ?_) | (with_reducible refine G.drewN ?_ _) | (refine G.setCell ?_ (by first | (simp <;> done) | (simp <;> omega)) _) | (with_reducible refine G.trans ?_ (by with_reducible assumption))))⟩
  · go_enter Tryz.func137, Tryz.ntmps137
    go_wp2_with (first | (go_at_call 83; refine (v_grows k hk A c _ true HB.out).mono ?_; rintro e w' ⟨rfl, h1⟩; obtain ⟨hch1, hfh1⟩ := gcell h1; try (have hzh1 : w.heap.size < w'.heap.size := by have := h1.size; (try simp at this); omega); try (have hyh1 : w.heap.size + 1 < w'.heap.size := by have := h1.size; (try simp at this); omega)) | (go_at_call 100; refine (v_nextWord k hk A c _).mono ?_; rintro e w' ⟨rfl, h2⟩; obtain ⟨hch2, hfh2⟩ := gcell h2; try (have hzh2 : w.heap.size < w'.heap.size := by have := h2.size; (try simp at this); omega); try (have hyh2 : w.heap.size + 1 < w'.heap.size := by have := h2.size; (try simp at this); omega)))
    go_ret
    exact ⟨ret_int (by have := HB.out; unfold M.Kn.greatest; rw [this]; simp), (by repeat' (first | (with_reducible exact G.refl _) | (with_reducible assumption) | (with_reducible refine G.alloc ?_ _) | (with_reducible refine G.drew ?_) | (with_reducible refine G.drewN ?_ _) | (refine G.setCell ?_ (by first | (simp <;> done) | (simp <;> omega)) _) | (with_reducible refine G.trans ?_ (by with_reducible assumption))))⟩

theorem v_l2Width : Calls Tryz.prog 134 #[knV k A c] w fun e w' => e = .returned (.int .i64 k.width) ∧ G w w' := by
  have hg : k.greatest ≤ 1023 := by have := hk.greatest_le; have := hk.s.l1024; omega
  have hl := hk.s.lit8
  have HW : Hid ((k.width : Int) = max ((k.s.lit : Int) + 1) (M.needed k.greatest)) := by unfold Hid M.Kn.width; omega
  go_enter Tryz.func134, Tryz.ntmps134
  go_wp2
  go_region_held3 (fun w' => w'.cell? ⟨w.heap.size, 0, none⟩ = some (.int .i64 k.s.ord) ∧ w'.cell? ⟨w.heap.size, 1, none⟩ = some (.int .i64 k.s.lit) ∧ w'.cell? ⟨w.heap.size, 2, none⟩ = some (.int .i64 k.s.most) ∧ w'.cell? ⟨w.heap.size, 3, none⟩ = some (.slice A k.ps.length c) ∧ w'.cell? ⟨w.heap.size, 4, none⟩ = some (.int .i64 k.base) ∧ w'.cell? ⟨w.heap.size, 5, none⟩ = some (.int .i64 k.last)) (go_keep) (first | (go_at_call 130; refine (v_l2Greatest k hk A c _).mono ?_; rintro e w' ⟨rfl, h1⟩; obtain ⟨hch1, hfh1⟩ := gcell h1; try (have hzh1 : w.heap.size < w'.heap.size := by have := h1.size; (try simp at this); omega); try (have hyh1 : w.heap.size + 1 < w'.heap.size := by have := h1.size; (try simp at this); omega)) | (go_at_call 142; refine (c_l1Needed _ (by omega) _).mono ?_; rintro e w' ⟨rfl, rfl⟩))
  go_wp2
  go_ret
  exact ⟨ret_int (by rw [HW.out]; go_unwrap), (by repeat' (first | (with_reducible exact G.refl _) | (with_reducible assumption) | (with_reducible refine G.alloc ?_ _) | (with_reducible refine G.drew ?_) | (with_reducible refine G.drewN ?_ _) | (refine G.setCell ?_ (by first | (simp <;> done) | (simp <;> omega)) _) | (with_reducible refine G.trans ?_ (by with_reducible assumption))))⟩
theorem v_width : Calls Tryz.prog 122 #[knV k A c] w fun e w' => e = .returned (.int .i64 k.width) ∧ G w w' := by
  have hg : k.greatest ≤ 1023 := by have := hk.greatest_le; have := hk.s.l1024; omega
  have hl := hk.s.lit8
  have HW : Hid ((k.width : Int) = max ((k.s.lit : Int) + 1) (M.needed k.greatest)) := by unfold Hid M.Kn.width; omega
  go_enter Tryz.func122, Tryz.ntmps122
  go_wp2
  go_region_held3 (fun w' => w'.cell? ⟨w.heap.size, 0, none⟩ = some (.int .i64 k.s.ord) ∧ w'.cell? ⟨w.heap.size, 1, none⟩ = some (.int .i64 k.s.lit) ∧ w'.cell? ⟨w.heap.size, 2, none⟩ = some (.int .i64 k.s.most) ∧ w'.cell? ⟨w.heap.size, 3, none⟩ = some (.slice A k.ps.length c) ∧ w'.cell? ⟨w.heap.size, 4, none⟩ = some (.int .i64 k.base) ∧ w'.cell? ⟨w.heap.size, 5, none⟩ = some (.int .i64 k.last)) (go_keep) (first | (go_at_call 137; refine (v_greatest k hk A c _).mono ?_; rintro e w' ⟨rfl, h1⟩; obtain ⟨hch1, hfh1⟩ := gcell h1; try (have hzh1 : w.heap.size < w'.heap.size := by have := h1.size; (try simp at this); omega); try (have hyh1 : w.heap.size + 1 < w'.heap.size := by have := h1.size; (try simp at this); omega)) | (go_at_call 138; refine (c_BitsNeeded _ (by omega) _).mono ?_; rintro e w' ⟨rfl, rfl⟩))
  go_wp2
  go_ret
  exact ⟨ret_int (by rw [HW.out]; go_unwrap; omega), (by repeat' (first | (with_reducible exact G.refl _) | (with_reducible assumption) | (with_reducible refine G.alloc ?_ _) | (with_reducible refine G.drew ?_) | (with_reducible refine G.drewN ?_ _) | (refine G.setCell ?_ (by first | (simp <;> done) | (simp <;> omega)) _) | (with_reducible refine G.trans ?_ (by with_reducible assumption))))⟩

theorem v_canFollow (code : Nat) (b : Bool) (hb : decide (code ≤ k.greatest) = b) : Calls Tryz.prog 121 #[knV k A c, .int .i64 code] w fun e w' => e = .returned (.bool b) ∧ G w w' := by
  have HB := Lib.hid hb
  clear hb
  go_enter Tryz.func121, Tryz.ntmps121
  go_wp2_with (go_at_call 137; refine (v_greatest k hk A c _).mono ?_; rintro e w' ⟨rfl, h1⟩; obtain ⟨hch1, hfh1⟩ := gcell h1; try (have hzh1 : w.heap.size < w'.heap.size := by have := h1.size; (try simp at this); omega); try (have hyh1 : w.heap.size + 1 < w'.heap.size := by have := h1.size; (try simp at this); omega))
  go_ret
  exact ⟨ret_bool (by rw [← HB.out]), (by repeat' (first | (with_reducible exact G.refl _) | (with_reducible assumption) | (with_reducible refine G.alloc ?_ _) | (with_reducible refine G.drew ?_) | (with_reducible refine G.drewN ?_ _) | (refine G.setCell ?_ (by first | (simp <;> done) | (simp <;> omega)) _) | (with_reducible refine G.trans ?_ (by with_reducible assumption))))⟩

theorem v_isFull (b : Bool) (hb : k.full = b) : Calls Tryz.prog 120 #[knV k A c] w fun e w' => e = .returned (.bool b) ∧ G w w' := by
  have hs := hk.s
  have HB := Lib.hid hb
  clear hb
  by_cases h0 : k.s.l < k.nxt
  · have hd : decide (k.s.l < k.nxt) = true := by simp; omega
    go_enter Tryz.func120, Tryz.ntmps120
    go_wp2
    go_region_held3 (fun w' => w'.cell? ⟨w.heap.size, 0, none⟩ = some (.int .i64 k.s.ord) ∧ w'.cell? ⟨w.heap.size, 1, none⟩ = some (.int .i64 k.s.lit) ∧ w'.cell? ⟨w.heap.size, 2, none⟩ = some (.int .i64 k.s.most) ∧ w'.cell? ⟨w.heap.size, 3, none⟩ = some (.slice A k.ps.length c) ∧ w'.cell? ⟨w.heap.size, 4, none⟩ = some (.int .i64 k.base) ∧ w'.cell? ⟨w.heap.size, 5, none⟩ = some (.int .i64 k.last)) (go_keep) (first | (go_at_call 100; refine (v_nextWord k hk A c _).mono ?_; rintro e w' ⟨rfl, h1⟩; obtain ⟨hch1, hfh1⟩ := gcell h1; try (have hzh1 : w.heap.size < w'.heap.size := by have := h1.size; (try simp at this); omega); try (have hyh1 : w.heap.size + 1 < w'.heap.size := by have := h1.size; (try simp at this); omega)) | (go_at_call 77; refine (v_LastCode k.s hs _).mono ?_; rintro e w' ⟨rfl, h2⟩; obtain ⟨hch2, hfh2⟩ := gcell h2; try (have hzh2 : w.heap.size < w'.heap.size := by have := h2.size; (try simp at this); omega); try (have hyh2 : w.heap.size + 1 < w'.heap.size := by have := h2.size; (try simp at this); omega)))
    go_wp2
    go_ret
    exact ⟨ret_bool (by rw [← HB.out]; simp [M.Kn.full, h0]), (by repeat' (first | (with_reducible exact G.refl _) | (with_reducible assumption) | (with_reducible refine G.alloc ?_ _) | (with_reducible refine G.drew ?_) | (with_reducible refine G.drewN ?_ _) | (refine G.setCell ?_ (by first | (simp <;> done) | (simp <;> omega)) _) | (with_reducible refine G.trans ?_ (by with_reducible assumption))))⟩
  · have hd : decide (k.s.l < k.nxt) = false := by simp; omega
    go_enter Tryz.func120, Tryz.ntmps120
    go_wp2
    refine wp_region_quiet_below (by kernel_rfl) (by kernel_rfl) ?_
    repeat (first | go_big_quiet_step ((first | (go_at_call 100; exact qcall (v_nextWord k hk A c _)) | (go_at_call 77; exact qcall (v_LastCode k.s hs _)))) | quiet_step ((first | (go_at_call 100; exact qcall (v_nextWord k hk A c _)) | (go_at_call 77; exact qcall (v_LastCode k.s hs _)))))
    refine wpQuiet_nil ?_
    intro w' hw'
    have h9 := G.of_regrown hw'
    clear hw'
    obtain ⟨hch9, hfh9⟩ := gcell h9
    go_wp2
    go_ret
    exact ⟨ret_bool (by rw [← HB.out]; simp [M.Kn.full, h0]), (by repeat' (first | (with_reducible exact G.refl _) | (with_reducible assumption) | (with_reducible refine G.alloc ?_ _) | (with_reducible refine G.drew ?_) | (with_reducible refine G.drewN ?_ _) | (refine G.setCell ?_ (by first | (simp <;> done) | (simp <;> omega)) _) | (with_reducible refine G.trans ?_ (by with_reducible assumption))))⟩
end
end Go.Proofs.YtlaijbkonapdbaaGreat

namespace Go.Proofs.YtlaijbkonapdbaaGreat
open Go.RowKit
attribute [local go_sem] grow_cell grow_frozen

/-- whether a number is the code of a literal or of one of n pairs -/
def hasI (c n : Nat) (code : Int) : Bool := decide ((0 ≤ code ∧ code < c) ∨ (c + 2 ≤ code ∧ code < c + 2 + n))
theorem hasI_nat (c n code : Nat) : hasI c n code = decide (M.has c n code) := by
  unfold hasI M.has; exact decide_eq_decide.2 (by omega)
theorem hasI_neg (c n : Nat) : hasI c n (-1) = false := by unfold hasI; simp; omega

section
variable (s : M.St) (hs : s.Ok) (n : Nat) (hn : n ≤ 2000) (code : Int) (b : Bool) (hb : hasI s.c n code = b) (w : World)
include hs hn hb

theorem v_l2Code : Calls Tryz.prog 94 #[stV s, .int .i64 code, .int .i64 n] w fun e w' => e = .returned (.bool b) ∧ G w w' := by
  have hc := hs.c256
  have he : s.e ≤ 257 := by rw [M.St.e_eq]; omega
  have HE := Lib.hid (M.St.e_eq s)
  have HB := Lib.hid hb
  have u1 : IntKind.i64.wrap ((s.c : Int) - 1) = s.c - 1 := by go_unwrap
  have u2 : IntKind.i64.wrap ((s.e : Int) + 1) = s.e + 1 := by go_unwrap
  have u3 : IntKind.i64.wrap ((s.e : Int) + n) = s.e + n := by go_unwrap
  clear hb
  by_cases h1 : 0 ≤ code ∧ code ≤ s.c - 1
  · have H1 := Lib.hid h1
    clear h1
    go_enter Tryz.func94, Tryz.ntmps94
    go_wp2
    refine wp_region_quiet_below (by kernel_rfl) (by kernel_rfl) ?_
    repeat (first | go_big_quiet_step ((first | (go_at_call 71; exact qcall (v_l1Clear s hs _)) | (go_at_call 22; exact qcall' (c_l1In_b _ _ _ true (decide_eq_true H1.out) _)))) | quiet_step ((first | (go_at_call 71; exact qcall (v_l1Clear s hs _)) | (go_at_call 22; exact qcall' (c_l1In_b _ _ _ true (decide_eq_true H1.out) _)))))
    refine wpQuiet_nil ?_
    intro w' hw'
    have h9 := G.of_regrown hw'
    clear hw'
    obtain ⟨hch9, hfh9⟩ := gcell h9
    go_wp2
    go_ret
    exact ⟨ret_bool (by have := H1.out; rw [← HB.out]; unfold hasI; simp; omega), (by repeat' (first | (with_reducible exact G.refl _) | (with_reducible assumption) | (with_reducible refine G.alloc ?_ _) | (with_reducible refine G.drew ?_) | (with_reducible refine G.drewN ?_ _) | (refine G.setCell ?_ (by first | (simp <;> done) | (simp <;> omega)) _) | (with_reducible refine G.trans ?_ (by with_reducible assumption))))⟩
  · have H1 := Lib.hid h1
    clear h1
    go_enter Tryz.func94, Tryz.ntmps94
    go_wp2
    refine wp_region_quiet_below (by kernel_rfl) (by kernel_rfl) ?_
    repeat (first | go_big_quiet_step ((first | (go_at_call 71; exact qcall (v_l1Clear s hs _)) | (go_at_call 93; exact qcall (v_l1End s hs _)) | (go_at_call_of 22 (0 : Int); exact qcall' (c_l1In_b _ _ _ false (decide_eq_false H1.out) _)) | (go_at_call 22; exact qcall' (c_l1In_b _ _ _ b (by have := H1.out; have := HE.out; rw [← HB.out]; unfold hasI; rw [Bool.eq_iff_iff]; simp; omega) _)))) | quiet_step ((first | (go_at_call 71; exact qcall (v_l1Clear s hs _)) | (go_at_call 93; exact qcall (v_l1End s hs _)) | (go_at_call_of 22 (0 : Int); exact qcall' (c_l1In_b _ _ _ false (decide_eq_false H1.out) _)) | (go_at_call 22; exact qcall' (c_l1In_b _ _ _ b (by have := H1.out; have := HE.out; rw [← HB.out]; unfold hasI; rw [Bool.eq_iff_iff]; simp; omega) _)))))
    refine wpQuiet_nil ?_
    intro w' hw'
    have h9 := G.of_regrown hw'
    clear hw'
    obtain ⟨hch9, hfh9⟩ := gcell h9
    go_wp2
    go_ret
    exact ⟨rfl, (by repeat' (first | (with_reducible exact G.refl _) | (with_reducible assumption) | (with_reducible refine G.alloc ?_ _) | (with_reducible refine G.drew ?_) | (with_reducible refine G.drewN ?_ _) | (refine G.setCell ?_ (by first | (simp <;> done) | (simp <;> omega)) _) | (with_reducible refine G.trans ?_ (by with_reducible assumption))))⟩

theorem v_hasWord : Calls Tryz.prog 79 #[stV s, .int .i64 n, .int .i64 code] w fun e w' => e = .returned (.bool b) ∧ G w w' := by
  have hc := hs.c256
  have he : s.e ≤ 257 := by rw [M.St.e_eq]; omega
  have he2 : (s.e : Int) ≤ s.c + 1 := by rw [M.St.e_eq]; omega
  have he3 : (s.c : Int) + 1 ≤ s.e := by rw [M.St.e_eq]; omega
  have HB := Lib.hid hb
  clear hb
  rcases (show code < 0 ∨ (0 ≤ code ∧ code < s.c) ∨ (s.c ≤ code ∧ code ≤ s.e) ∨ (s.e < code) by omega) with h1 | ⟨h1, h2⟩ | ⟨h1, h2⟩ | h1
  all_goals
    go_enter Tryz.func79, Tryz.ntmps79
    go_wp2_with (first | (go_at_call 78; refine (v_EndCode s hs _).mono ?_; rintro e w' ⟨rfl, h8⟩; obtain ⟨hch8, hfh8⟩ := gcell h8; try (have hzh8 : w.heap.size < w'.heap.size := by have := h8.size; (try simp at this); omega); try (have hyh8 : w.heap.size + 1 < w'.heap.size := by have := h8.size; (try simp at this); omega)) | (go_at_call 80; refine (v_ClearCode s hs _).mono ?_; rintro e w' ⟨rfl, h9⟩; obtain ⟨hch9, hfh9⟩ := gcell h9; try (have hzh9 : w.heap.size < w'.heap.size := by have := h9.size; (try simp at this); omega); try (have hyh9 : w.heap.size + 1 < w'.heap.size := by have := h9.size; (try simp at this); omega)))
    all_goals
      go_ret
      exact ⟨ret_bool (by rw [← HB.out]; unfold hasI; rw [Bool.eq_iff_iff]; simp; omega), (by repeat' (first | (with_reducible exact G.refl _) | (with_reducible assumption) | (with_reducible refine G.alloc ?_ _) | (with_reducible refine G.drew ?_) | (with_reducible refine G.drewN ?_ _) | (refine G.setCell ?_ (by first | (simp <;> done) | (simp <;> omega)) _) | (with_reducible refine G.trans ?_ (by with_reducible assumption))))⟩
end

section
variable (k : M.Kn) (hk : k.V) (A : Option Addr) (c : Nat) (w : World)
include hk

theorem v_l2Follows (code : Nat) (b : Bool) (hb : decide (k.follows code) = b) : Calls Tryz.prog 135 #[knV k A c, .int .i64 code] w fun e w' => e = .returned (.bool b) ∧ G w w' := by
  have hs := hk.s
  have hn : k.ps.length ≤ 2000 := by have h1 := hk.nxt_le; have h2 := hk.s.l1024; unfold M.Kn.nxt at h1; omega
  have HB := Lib.hid hb
  obtain ⟨g, hg⟩ : ∃ g, k.grows = g := ⟨_, rfl⟩
  have HG := Lib.hid hg
  clear hb hg
  have HF : Hid (k.follows code ↔ (hasI k.s.c k.ps.length code = true ∨ (k.grows = true ∧ code = k.nxt))) := by
    unfold Hid
    rw [hk.follows_iff, hasI_nat]; simp
  by_cases h1 : hasI k.s.c k.ps.length code = true
  · have H1 := Lib.hid h1
    clear h1
    have hb' : b = true := by have := HF.out; rw [← HB.out]; simp [this, H1.out]
    subst hb'
    go_enter Tryz.func135, Tryz.ntmps135
    go_wp2_with (first | (go_at_call 94; refine (v_l2Code k.s hs _ hn _ true H1.out _).mono ?_; rintro e w' ⟨rfl, h8⟩; obtain ⟨hch8, hfh8⟩ := gcell h8; try (have hzh8 : w.heap.size < w'.heap.size := by have := h8.size; (try simp at this); omega); try (have hyh8 : w.heap.size + 1 < w'.heap.size := by have := h8.size; (try simp at this); omega)))
    go_ret
    exact ⟨rfl, (by repeat' (first | (with_reducible exact G.refl _) | (with_reducible assumption) | (with_reducible refine G.alloc ?_ _) | (with_reducible refine G.drew ?_) | (with_reducible refine G.drewN ?_ _) | (refine G.setCell ?_ (by first | (simp <;> done) | (simp <;> omega)) _) | (with_reducible refine G.trans ?_ (by with_reducible assumption))))⟩
  · have H1 : Hid (hasI k.s.c k.ps.length code = false) := by simpa [Hid] using h1
    clear h1
    cases g
    · have hb' : b = false := by have := HF.out; rw [← HB.out]; simp [this, H1.out, HG.out]
      subst hb'
      go_enter Tryz.func135, Tryz.ntmps135
      go_wp2_with (first | (go_at_call 94; refine (v_l2Code k.s hs _ hn _ false H1.out _).mono ?_; rintro e w' ⟨rfl, h8⟩; obtain ⟨hch8, hfh8⟩ := gcell h8; try (have hzh8 : w.heap.size < w'.heap.size := by have := h8.size; (try simp at this); omega); try (have hyh8 : w.heap.size + 1 < w'.heap.size := by have := h8.size; (try simp at this); omega)) | (go_at_call 132; refine (v_l2Grows k hk A c _ false HG.out).mono ?_; rintro e w' ⟨rfl, h9⟩; obtain ⟨hch9, hfh9⟩ := gcell h9; try (have hzh9 : w.heap.size < w'.heap.size := by have := h9.size; (try simp at this); omega); try (have hyh9 : w.heap.size + 1 < w'.heap.size := by have := h9.size; (try simp at this); omega)))
      go_ret
      exact ⟨rfl, (by repeat' (first | (with_reducible exact G.refl _) | (with_reducible assumption) | (with_reducible refine G.alloc ?_ _) | (with_reducible refine G.drew ?_) | (with_reducible refine G.drewN ?_ _) | (refine G.setCell ?_ (by first | (simp <;> done) | (simp <;> omega)) _) | (with_reducible refine G.trans ?_ (by with_reducible assumption))))⟩
    · have HB2 : Hid (b = decide (code = k.nxt)) := by have := HF.out; unfold Hid; rw [← HB.out]; simp [this, H1.out, HG.out]
      go_enter Tryz.func135, Tryz.ntmps135
      go_wp2_with (first | (go_at_call 94; refine (v_l2Code k.s hs _ hn _ false H1.out _).mono ?_; rintro e w' ⟨rfl, h8⟩; obtain ⟨hch8, hfh8⟩ := gcell h8; try (have hzh8 : w.heap.size < w'.heap.size := by have := h8.size; (try simp at this); omega); try (have hyh8 : w.heap.size + 1 < w'.heap.size := by have := h8.size; (try simp at this); omega)) | (go_at_call 132; refine (v_l2Grows k hk A c _ true HG.out).mono ?_; rintro e w' ⟨rfl, h9⟩; obtain ⟨hch9, hfh9⟩ := gcell h9; try (have hzh9 : w.heap.size < w'.heap.size := by have := h9.size; (try simp at this); omega); try (have hyh9 : w.heap.size + 1 < w'.heap.size := by have := h9.size; (try simp at this); omega)) | (go_at_call 119; refine (v_l2Next k hk A c _).mono ?_; rintro e w' ⟨rfl, h7⟩; obtain ⟨hch7, hfh7⟩ := gcell h7; try (have hzh7 : w.heap.size < w'.heap.size := by have := h7.size; (try simp at this); omega); try (have hyh7 : w.heap.size + 1 < w'.heap.size := by have := h7.size; (try simp at this); omega)))
      go_ret
      exact ⟨ret_bool (by rw [HB2.out, Bool.eq_iff_iff]; simp; omega), (by repeat' (first | (with_reducible exact G.refl _) | (with_reducible assumption) | (with_reducible refine G.alloc ?_ _) | (with_reducible refine G.drew ?_) | (with_reducible refine G.drewN ?_ _) | (refine G.setCell ?_ (by first | (simp <;> done) | (simp <;> omega)) _) | (with_reducible refine G.trans ?_ (by with_reducible assumption))))⟩
end
end Go.Proofs.YtlaijbkonapdbaaGreat
