/- Functions walked. -/
import Derived.Test.YtideafkiaipnoaaOpen
import Derived.Test.YtideafkiaipnoaaRwOp
namespace Go.Proofs.Ytideafkiaipnoaa.Q
open Go Go.ChangeShapes Go.WideShapes Go.ChangeAt Go.RowKit Go.Proofs.YtideafkiaipnoaaW.PrintWords Go.Proofs.Ytideafkiaipnoaa.Deed
set_option maxRecDepth 100000
theorem opn37 {H : Type} {enc : TypeId × Value → H} {w : World} {base : Nat} {sp : Nat → Bool} {held : Bool} {x : DataW H × List MemPlace} {fuel : Nat} {cs : List Value} (h : DataW.trod enc Try.prog w base sp held fuel 37 cs = some x) : ∃ (v0 : List Int) (A0 : Option Addr) (c0_ : Nat), cs = [.slice A0 v0.length c0_] ∧ RI w A0 v0 ∧ v0.length ≤ c0_ ∧ c0_ ≤ 9223372036854775807 := by
  obtain ⟨xs, n, rfl, rfl, hl, hx, hf⟩ := DataW.trod_struct Try.underlying37 h
  rw [show Try.prog.cellsOf 37 = 1 by kernel_rfl] at hl
  obtain ⟨c0, rfl⟩ : ∃ c0, cs = [c0] := by
    cases cs with
    | nil => simp at hl
    | cons c0 cs =>
    cases cs with
    | cons _ _ => simp at hl
    | nil => exact ⟨_, rfl⟩
  have f0 : DataW.trod enc Try.prog w base sp held n 24 (List.take (Try.prog.cellsOf 24) (List.drop 0 [c0])) = xs[0]? := hf 0 _ rfl
  rw [show Try.prog.cellsOf 24 = 1 by kernel_rfl, List.getElem?_eq_getElem (show 0 < xs.length by rw [hx]; decide)] at f0
  replace f0 : DataW.trod enc Try.prog w base sp held n 24 [c0] = some _ := f0
  obtain ⟨A0, v0, c0_, e0, r0, l0, m0⟩ := op_ints Try.underlying24 Try.underlying3 (by kernel_rfl) f0
  cases e0
  exact ⟨v0, A0, c0_, rfl, r0, l0, m0⟩
theorem opn61 {H : Type} {enc : TypeId × Value → H} {w : World} {base : Nat} {sp : Nat → Bool} {held : Bool} {x : DataW H × List MemPlace} {fuel : Nat} {cs : List Value} (h : DataW.trod enc Try.prog w base sp held fuel 61 cs = some x) : ∃ (v0 : Int) (v1 : Int), cs = [.int .i64 v0, .int .i64 v1] := by
  obtain ⟨xs, n, rfl, rfl, hl, hx, hf⟩ := DataW.trod_struct Try.underlying61 h
  rw [show Try.prog.cellsOf 61 = 2 by kernel_rfl] at hl
  obtain ⟨c0, c1, rfl⟩ : ∃ c0 c1, cs = [c0, c1] := by
    cases cs with
    | nil => simp at hl
    | cons c0 cs =>
    cases cs with
    | nil => simp at hl
    | cons c1 cs =>
    cases cs with
    | cons _ _ => simp at hl
    | nil => exact ⟨_, _, rfl⟩
  have f0 : DataW.trod enc Try.prog w base sp held n 3 (List.take (Try.prog.cellsOf 3) (List.drop 0 [c0, c1])) = xs[0]? := hf 0 _ rfl
  rw [show Try.prog.cellsOf 3 = 1 by kernel_rfl, List.getElem?_eq_getElem (show 0 < xs.length by rw [hx]; decide)] at f0
  replace f0 : DataW.trod enc Try.prog w base sp held n 3 [c0] = some _ := f0
  obtain ⟨v0, e0, _⟩ := DataW.trod_int Try.underlying3 f0
  have f1 : DataW.trod enc Try.prog w base sp held n 3 (List.take (Try.prog.cellsOf 3) (List.drop 1 [c0, c1])) = xs[1]? := hf 1 _ rfl
  rw [show Try.prog.cellsOf 3 = 1 by kernel_rfl, List.getElem?_eq_getElem (show 1 < xs.length by rw [hx]; decide)] at f1
  replace f1 : DataW.trod enc Try.prog w base sp held n 3 [c1] = some _ := f1
  obtain ⟨v1, e1, _⟩ := DataW.trod_int Try.underlying3 f1
  cases e0
  cases e1
  exact ⟨v0, v1, rfl⟩
theorem opn63 {H : Type} {enc : TypeId × Value → H} {w : World} {base : Nat} {sp : Nat → Bool} {held : Bool} {x : DataW H × List MemPlace} {fuel : Nat} {cs : List Value} (h : DataW.trod enc Try.prog w base sp held fuel 63 cs = some x) : ∃ (v0 : Int) (v1 : Int) (v2 : Int) (v0_3 : List Int) (A0_3 : Option Addr) (c0_3_ : Nat) (v3 : Int) (v4 : Int) (v5 : Int) (v6 : Int) (v0_8 : Int) (v1_8 : Int) (v7 : ByteArray) (v8 : ByteArray), cs = [.int .i64 v0, .int .i64 v1, .int .i64 v2, .slice A0_3 v0_3.length c0_3_, .int .i64 v3, .int .i64 v4, .int .i64 v5, .int .i64 v6, .int .i64 v0_8, .int .i64 v1_8, .string v7, .string v8] ∧ RI w A0_3 v0_3 ∧ v0_3.length ≤ c0_3_ ∧ c0_3_ ≤ 9223372036854775807 ∧ v7.size ≤ 9223372036854775807 ∧ v8.size ≤ 9223372036854775807 := by
  obtain ⟨xs, n, rfl, rfl, hl, hx, hf⟩ := DataW.trod_struct Try.underlying63 h
  rw [show Try.prog.cellsOf 63 = 12 by kernel_rfl] at hl
  obtain ⟨c0, c1, c2, c3, c4, c5, c6, c7, c8, c9, c10, c11, rfl⟩ : ∃ c0 c1 c2 c3 c4 c5 c6 c7 c8 c9 c10 c11, cs = [c0, c1, c2, c3, c4, c5, c6, c7, c8, c9, c10, c11] := by
    cases cs with
    | nil => simp at hl
    | cons c0 cs =>
    cases cs with
    | nil => simp at hl
    | cons c1 cs =>
    cases cs with
    | nil => simp at hl
    | cons c2 cs =>
    cases cs with
    | nil => simp at hl
    | cons c3 cs =>
    cases cs with
    | nil => simp at hl
    | cons c4 cs =>
    cases cs with
    | nil => simp at hl
    | cons c5 cs =>
    cases cs with
    | nil => simp at hl
    | cons c6 cs =>
    cases cs with
    | nil => simp at hl
    | cons c7 cs =>
    cases cs with
    | nil => simp at hl
    | cons c8 cs =>
    cases cs with
    | nil => simp at hl
    | cons c9 cs =>
    cases cs with
    | nil => simp at hl
    | cons c10 cs =>
    cases cs with
    | nil => simp at hl
    | cons c11 cs =>
    cases cs with
    | cons _ _ => simp at hl
    | nil => exact ⟨_, _, _, _, _, _, _, _, _, _, _, _, rfl⟩
  have f0 : DataW.trod enc Try.prog w base sp held n 3 (List.take (Try.prog.cellsOf 3) (List.drop 0 [c0, c1, c2, c3, c4, c5, c6, c7, c8, c9, c10, c11])) = xs[0]? := hf 0 _ rfl
  rw [show Try.prog.cellsOf 3 = 1 by kernel_rfl, List.getElem?_eq_getElem (show 0 < xs.length by rw [hx]; decide)] at f0
  replace f0 : DataW.trod enc Try.prog w base sp held n 3 [c0] = some _ := f0
  obtain ⟨v0, e0, _⟩ := DataW.trod_int Try.underlying3 f0
  have f1 : DataW.trod enc Try.prog w base sp held n 3 (List.take (Try.prog.cellsOf 3) (List.drop 1 [c0, c1, c2, c3, c4, c5, c6, c7, c8, c9, c10, c11])) = xs[1]? := hf 1 _ rfl
  rw [show Try.prog.cellsOf 3 = 1 by kernel_rfl, List.getElem?_eq_getElem (show 1 < xs.length by rw [hx]; decide)] at f1
  replace f1 : DataW.trod enc Try.prog w base sp held n 3 [c1] = some _ := f1
  obtain ⟨v1, e1, _⟩ := DataW.trod_int Try.underlying3 f1
  have f2 : DataW.trod enc Try.prog w base sp held n 3 (List.take (Try.prog.cellsOf 3) (List.drop 2 [c0, c1, c2, c3, c4, c5, c6, c7, c8, c9, c10, c11])) = xs[2]? := hf 2 _ rfl
  rw [show Try.prog.cellsOf 3 = 1 by kernel_rfl, List.getElem?_eq_getElem (show 2 < xs.length by rw [hx]; decide)] at f2
  replace f2 : DataW.trod enc Try.prog w base sp held n 3 [c2] = some _ := f2
  obtain ⟨v2, e2, _⟩ := DataW.trod_int Try.underlying3 f2
  have f3 : DataW.trod enc Try.prog w base sp held n 37 (List.take (Try.prog.cellsOf 37) (List.drop 3 [c0, c1, c2, c3, c4, c5, c6, c7, c8, c9, c10, c11])) = xs[3]? := hf 3 _ rfl
  rw [show Try.prog.cellsOf 37 = 1 by kernel_rfl, List.getElem?_eq_getElem (show 3 < xs.length by rw [hx]; decide)] at f3
  replace f3 : DataW.trod enc Try.prog w base sp held n 37 [c3] = some _ := f3
  obtain ⟨v0_3, A0_3, c0_3_, e3, q3_0, q3_1, q3_2⟩ := opn37 f3
  have f4 : DataW.trod enc Try.prog w base sp held n 3 (List.take (Try.prog.cellsOf 3) (List.drop 4 [c0, c1, c2, c3, c4, c5, c6, c7, c8, c9, c10, c11])) = xs[4]? := hf 4 _ rfl
  rw [show Try.prog.cellsOf 3 = 1 by kernel_rfl, List.getElem?_eq_getElem (show 4 < xs.length by rw [hx]; decide)] at f4
  replace f4 : DataW.trod enc Try.prog w base sp held n 3 [c4] = some _ := f4
  obtain ⟨v3, e4, _⟩ := DataW.trod_int Try.underlying3 f4
  have f5 : DataW.trod enc Try.prog w base sp held n 3 (List.take (Try.prog.cellsOf 3) (List.drop 5 [c0, c1, c2, c3, c4, c5, c6, c7, c8, c9, c10, c11])) = xs[5]? := hf 5 _ rfl
  rw [show Try.prog.cellsOf 3 = 1 by kernel_rfl, List.getElem?_eq_getElem (show 5 < xs.length by rw [hx]; decide)] at f5
  replace f5 : DataW.trod enc Try.prog w base sp held n 3 [c5] = some _ := f5
  obtain ⟨v4, e5, _⟩ := DataW.trod_int Try.underlying3 f5
  have f6 : DataW.trod enc Try.prog w base sp held n 3 (List.take (Try.prog.cellsOf 3) (List.drop 6 [c0, c1, c2, c3, c4, c5, c6, c7, c8, c9, c10, c11])) = xs[6]? := hf 6 _ rfl
  rw [show Try.prog.cellsOf 3 = 1 by kernel_rfl, List.getElem?_eq_getElem (show 6 < xs.length by rw [hx]; decide)] at f6
  replace f6 : DataW.trod enc Try.prog w base sp held n 3 [c6] = some _ := f6
  obtain ⟨v5, e6, _⟩ := DataW.trod_int Try.underlying3 f6
  have f7 : DataW.trod enc Try.prog w base sp held n 3 (List.take (Try.prog.cellsOf 3) (List.drop 7 [c0, c1, c2, c3, c4, c5, c6, c7, c8, c9, c10, c11])) = xs[7]? := hf 7 _ rfl
  rw [show Try.prog.cellsOf 3 = 1 by kernel_rfl, List.getElem?_eq_getElem (show 7 < xs.length by rw [hx]; decide)] at f7
  replace f7 : DataW.trod enc Try.prog w base sp held n 3 [c7] = some _ := f7
  obtain ⟨v6, e7, _⟩ := DataW.trod_int Try.underlying3 f7
  have f8 : DataW.trod enc Try.prog w base sp held n 61 (List.take (Try.prog.cellsOf 61) (List.drop 8 [c0, c1, c2, c3, c4, c5, c6, c7, c8, c9, c10, c11])) = xs[8]? := hf 8 _ rfl
  rw [show Try.prog.cellsOf 61 = 2 by kernel_rfl, List.getElem?_eq_getElem (show 8 < xs.length by rw [hx]; decide)] at f8
  replace f8 : DataW.trod enc Try.prog w base sp held n 61 [c8, c9] = some _ := f8
  obtain ⟨v0_8, v1_8, e8⟩ := opn61 f8
  have f9 : DataW.trod enc Try.prog w base sp held n 9 (List.take (Try.prog.cellsOf 9) (List.drop 10 [c0, c1, c2, c3, c4, c5, c6, c7, c8, c9, c10, c11])) = xs[9]? := hf 9 _ rfl
  rw [show Try.prog.cellsOf 9 = 1 by kernel_rfl, List.getElem?_eq_getElem (show 9 < xs.length by rw [hx]; decide)] at f9
  replace f9 : DataW.trod enc Try.prog w base sp held n 9 [c10] = some _ := f9
  obtain ⟨v7, e9, _, s7⟩ := DataW.trod_string Try.underlying9 f9
  have f10 : DataW.trod enc Try.prog w base sp held n 9 (List.take (Try.prog.cellsOf 9) (List.drop 11 [c0, c1, c2, c3, c4, c5, c6, c7, c8, c9, c10, c11])) = xs[10]? := hf 10 _ rfl
  rw [show Try.prog.cellsOf 9 = 1 by kernel_rfl, List.getElem?_eq_getElem (show 10 < xs.length by rw [hx]; decide)] at f10
  replace f10 : DataW.trod enc Try.prog w base sp held n 9 [c11] = some _ := f10
  obtain ⟨v8, e10, _, s8⟩ := DataW.trod_string Try.underlying9 f10
  cases e0
  cases e1
  cases e2
  cases e3
  cases e4
  cases e5
  cases e6
  cases e7
  cases e8
  cases e9
  cases e10
  exact ⟨v0, v1, v2, v0_3, A0_3, c0_3_, v3, v4, v5, v6, v0_8, v1_8, v7, v8, rfl, q3_0, q3_1, q3_2, s7, s8⟩
def GoodeLO : LO → Prop := fun y : LO => y.o.deps.length ≤ y.c ∧ y.o.deps.length ≤ 9223372036854775807 ∧ y.o.key.size ≤ 9223372036854775807 ∧ y.o.text.size ≤ 9223372036854775807
theorem opeleLO {H : Type} {enc : TypeId × Value → H} {w : World} {base : Nat} {sp : Nat → Bool} {held : Bool} (fuel : Nat) (cs : List Value) (x : DataW H × List MemPlace) (h : DataW.trod enc Try.prog w base sp held fuel 63 cs = some x) : ∃ a : LO, cs = eLO.enc a ∧ (∀ B ys, eLO.inn a = some (B, ys) → RI w B ys) ∧ GoodeLO a := by
  obtain ⟨v0, v1, v2, v0_3, A0_3, c0_3_, v3, v4, v5, v6, v0_8, v1_8, v7, v8, e_, q3_0, q3_1, q3_2, s7, s8⟩ := opn63 h
  exact ⟨⟨⟨v0, v1, v2, v0_3, v3, v4, v5, v6, v0_8, v1_8, v7, v8⟩, A0_3, c0_3_⟩, e_, fun B ys hB => by cases hB; exact q3_0, ⟨q3_1, Nat.le_trans q3_1 q3_2, s7, s8⟩⟩
end Go.Proofs.Ytideafkiaipnoaa.Q
