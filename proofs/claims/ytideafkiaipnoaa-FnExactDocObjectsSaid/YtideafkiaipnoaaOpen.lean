/- What a law is handed, opened: rows of elements. -/
import Derived.Test.YtideafkiaipnoaaOpL
import Derived.Test.YtideafkiaipnoaaRows
import Derived.WalkKit
import Derived.ProofKit
import Derived.OpenShut
import Derived.ShutString
import Derived.ChangeOld
import Derived.Below
import Derived.Carry
import Derived.SizedLaws
import Derived.ChangeSlices
namespace Go.Proofs.Ytideafkiaipnoaa.Q
open Go Go.ChangeShapes Go.WideShapes Go.ChangeAt Go.RowKit Go.Proofs.YtideafkiaipnoaaW.PrintWords Go.Proofs.Ytideafkiaipnoaa.Deed
section
variable {H : Type} {enc : TypeId × Value → H} {P : Program} {w : World} {base : Nat} {sp : Nat → Bool} {held : Bool} {t e : TypeId} {x : DataW H × List MemPlace} {fuel : Nat}
theorem op_ints {cs : List Value} (ht : P.underlying t = some (.slice e)) (he : P.underlying e = some (.int .i64)) (hc : P.cellsOf e = 1) (h : DataW.trod enc P w base sp held fuel t cs = some x) :
    ∃ (A : Option Addr) (ys : List Int) (c : Nat), cs = [.slice A ys.length c] ∧ RI w A ys ∧ ys.length ≤ c ∧ c ≤ 9223372036854775807 := by
  rcases open_ints ht he hc h with ⟨rfl, _⟩ | ⟨a, len, cap, zs, rfl, _, hl, hm, hz, _, hcell, _⟩
  · exact ⟨none, [], 0, rfl, RI.nil _ _, Nat.le_refl _, by omega⟩
  · have hlz : len ≤ zs.length := by rw [hz]; split <;> omega
    refine ⟨some a, zs.take len, cap, by rw [List.length_take, Nat.min_eq_left hlz], fun i y hy => ?_, by rw [List.length_take]; omega, hm⟩
    have hi : i < len := by have := (List.getElem?_eq_some_iff.1 hy).1; rw [List.length_take] at this; omega
    rw [List.getElem?_take_of_lt hi] at hy
    refine ⟨rfl, ?_⟩
    have := hcell i (by omega)
    rw [List.getD_eq_getElem?_getD, hy] at this
    exact this
theorem op_row {α : Type} {E : Enc α} {Good : α → Prop} {cs : List Value} (ht : P.underlying t = some (.slice e)) (hn : P.cellsOf e = E.n) (hn0 : 0 < E.n)
    (hel : ∀ (fuel : Nat) (cs : List Value) (x : DataW H × List MemPlace), DataW.trod enc P w base sp held fuel e cs = some x → ∃ a : α, cs = E.enc a ∧ (∀ B ys, E.inn a = some (B, ys) → RI w B ys) ∧ Good a)
    (h : DataW.trod enc P w base sp held fuel t cs = some x) : ∃ (A : Option Addr) (xs : List α) (c : Nat), cs = [.slice A xs.length c] ∧ RV E w A xs ∧ (∀ y ∈ xs, Good y) ∧ xs.length ≤ c ∧ c ≤ 9223372036854775807 := by
  rcases DataW.trod_slice ht h with ⟨rfl, _⟩ | ⟨a, len, cap, elems, rest, n, _, rfl, _, _, hl, hm, hlen, helm, _, _⟩
  · exact ⟨none, [], 0, rfl, RV.nil _ _, by simp, Nat.le_refl _, by omega⟩
  · have each : ∀ i : Fin len, ∃ y : α, (∀ (j : Nat) (u : Value), (E.enc y)[j]? = some u → w.cell? (a.add (i.1 * E.n + j)) = some u) ∧ (∀ B ys, E.inn y = some (B, ys) → RI w B ys) ∧ Good y := by
      intro i
      have h1 := helm i.1 i.2
      have hx : elems[i.1]? = some elems[i.1] := List.getElem?_eq_getElem (by omega)
      rw [hx, Option.bind_eq_some_iff] at h1
      obtain ⟨cs', hcs, hy⟩ := h1
      obtain ⟨y, e1, h2, h3⟩ := hel _ _ _ hy
      obtain ⟨_, _, hc⟩ := World.cells?_some hcs
      refine ⟨y, fun j u hu => ?_, h2, h3⟩
      have hj := enc_lt hu
      have h4 := hc j (by rw [hn]; exact hj)
      rw [e1, hu, hn, add_add] at h4
      exact h4
    have hch : ∃ f : Fin len → α, ∀ i, (∀ (j : Nat) (u : Value), (E.enc (f i))[j]? = some u → w.cell? (a.add (i.1 * E.n + j)) = some u) ∧ (∀ B ys, E.inn (f i) = some (B, ys) → RI w B ys) ∧ Good (f i) := ⟨fun i => (each i).choose, fun i => (each i).choose_spec⟩
    obtain ⟨f, hf⟩ := hch
    refine ⟨some a, List.ofFn f, cap, by simp, fun i y hy => ?_, fun y hy => ?_, by simpa using hl, hm⟩
    · rw [List.getElem?_ofFn] at hy
      split at hy
      · rename_i hi
        cases hy
        exact ⟨rfl, (hf ⟨i, hi⟩).1, (hf ⟨i, hi⟩).2.1⟩
      · cases hy
    · obtain ⟨i, rfl⟩ := List.mem_ofFn.1 hy
      exact (hf i).2.2
end
end Go.Proofs.Ytideafkiaipnoaa.Q
