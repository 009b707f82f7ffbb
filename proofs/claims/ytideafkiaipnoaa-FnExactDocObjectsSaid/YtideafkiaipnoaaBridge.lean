/- From one way of telling a row to the other. -/
import Derived.Test.YtideafkiaipnoaaRwOp
import Derived.Test.YtideafkiaipnoaaOwn
namespace Go.Proofs.Ytideafkiaipnoaa.Q
open Go Go.RowKit Go.Proofs.YtideafkiaipnoaaW.PrintWords Go.Proofs.Ytideafkiaipnoaa.Deed
def dA (ys : List LO) (i : Nat) : Option Addr := (ys.getD i default).A
def dC (ys : List LO) (i : Nat) : Nat := (ys.getD i default).c
def Caps (ys : List LO) : Prop := ∀ y ∈ ys, y.o.deps.length ≤ y.c
section
variable {w : World} {A : Option Addr} {ys : List LO}
theorem RO_of (h : RV eLO w A ys) (hc : Caps ys) : RO w A (ys.map LO.o) (dA ys) (dC ys) := by
  intro i o ho
  rw [List.getElem?_map] at ho
  cases hy : ys[i]? with
  | none => rw [hy] at ho; cases ho
  | some y =>
    rw [hy] at ho
    cases ho
    obtain ⟨h1, h2, h3⟩ := h i y hy
    have hd : ys.getD i default = y := by simp [List.getD_eq_getElem?_getD, hy]
    refine ⟨h1, fun j u hu => ?_, ?_, ?_⟩
    · unfold dA dC at hu
      rw [hd] at hu
      exact h2 j u hu
    · unfold dA
      rw [hd]
      exact h3 _ _ rfl
    · unfold dC
      rw [hd]
      exact hc y (List.mem_of_getElem? hy)
theorem own_I {v : Value} {xs : List Int} {N : Nat} (h : OwnRow R1 3 1 w 0 v xs) (ha : Above N v) : ∃ A c, v = .slice A xs.length c ∧ xs.length ≤ c ∧ OwnI w A xs N w.heap.size := by
  obtain ⟨inner, ⟨hl, ho⟩, h1, h2⟩ := h
  rcases ho with ⟨rfl, hn⟩ | ⟨g, cap, cur, rfl, _, hb, hc, _, _, ht⟩
  · have : xs = [] := List.eq_nil_of_length_eq_zero hn
    subst this
    exact ⟨none, 0, rfl, Nat.le_refl _, .inl rfl⟩
  · refine ⟨_, cap, rfl, hc, .inr ⟨g, cur.toList, rfl, ha g rfl, blk_lt hb, by simpa using hb, fun i x hx => ?_⟩⟩
    have h3 := h2 i x hx
    have hi : i < xs.length := (List.getElem?_eq_some_iff.1 hx).1
    unfold R1 at h3
    rw [← ht] at h3
    have h4 := congrArg (·[0]?) h3
    simp only [Nat.mul_one] at h4
    rw [List.getElem?_take_of_lt (by omega), List.getElem?_drop, List.getElem?_take_of_lt (by omega)] at h4
    simpa using h4
/-- The elements of a row of one's own that grew: cells alone. -/
theorem own_E {α : Type} {E : Enc α} {v : Value} {xs : List α} {N : Nat} (h : OwnRow (fun x cs => cs = E.enc x) E.T E.n w 0 v xs) (ha : Above N v) (hn0 : 0 < E.n)
    (hin : ∀ (i : Nat) (x : α) (B : Option Addr) (zs : List Int), xs[i]? = some x → E.inn x = some (B, zs) → OwnI w B zs N w.heap.size)
    (hfar : ∀ (i : Nat) (x : α) (g : Nat) (zs : List Int), xs[i]? = some x → E.inn x = some (some ⟨g, 0, none⟩, zs) → zs ≠ [] → v.ownBlock ≠ some g)
    (hdis : ∀ (i i' : Nat) (x x' : α) (g : Nat) (zs zs' : List Int), xs[i]? = some x → xs[i']? = some x' → E.inn x = some (some ⟨g, 0, none⟩, zs) → E.inn x' = some (some ⟨g, 0, none⟩, zs') → zs ≠ [] → zs' ≠ [] → i = i') :
    ∃ A c, v = .slice A xs.length c ∧ xs.length ≤ c ∧ OwnAt E w A xs N w.heap.size := by
  obtain ⟨inner, ⟨hl, ho⟩, h1, h2⟩ := h
  rcases ho with ⟨rfl, hn⟩ | ⟨g, cap, cur, rfl, _, hb, hc, _, _, ht⟩
  · have : xs = [] := List.eq_nil_of_length_eq_zero hn
    subst this
    exact ⟨none, 0, rfl, Nat.le_refl _, .inl rfl, hin, fun i x g zs hx => by simp at hx, hdis⟩
  · refine ⟨_, cap, rfl, hc, .inr ⟨g, cur.toList, rfl, ha g rfl, blk_lt hb, by simpa using hb, fun i x hx j u hu => ?_⟩, hin, fun i x g' zs hx hi hne e => ?_, hdis⟩
    · have h3 := h2 i x hx
      have hi : i < xs.length := (List.getElem?_eq_some_iff.1 hx).1
      have hj := enc_lt hu
      have h5 : i * E.n + j < xs.length * E.n := Nat.lt_of_lt_of_le (Nat.add_lt_add_left hj _) (by rw [← Nat.succ_mul]; exact Nat.mul_le_mul_right _ hi)
      simp only at h3
      rw [← ht] at h3
      rw [← h3, List.getElem?_take_of_lt hj, List.getElem?_drop, List.getElem?_take_of_lt h5] at hu
      exact hu
    · refine hfar i x g' zs hx hi hne ?_
      injection e with e
      injection e with e _ _
      simp [Value.ownBlock, e]
end
end Go.Proofs.Ytideafkiaipnoaa.Q
