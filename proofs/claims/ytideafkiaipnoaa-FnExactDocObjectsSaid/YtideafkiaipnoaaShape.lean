/- A row of operations that is one's own, as far as writing into it asks. -/
import Derived.Test.YtideafkiaipnoaaOwn
namespace Go.Proofs.Ytideafkiaipnoaa.Q
open Go Go.RowKit Go.Proofs.YtideafkiaipnoaaW.PrintWords Go.Proofs.Ytideafkiaipnoaa.Deed
/-- n operations in the block g; each one's vector is a whole block of integers; all blocks between lo and hi. -/
def Shape (w : World) (g n lo hi : Nat) : Prop := ∃ L : List Value, w.heap[g]? = some (.cells L.toArray 67 (0, 0)) ∧ L.length = n * 12 ∧ lo ≤ g ∧ g < hi ∧
  ∀ i, i < n → ∃ (gv : Nat) (ys : List Int), L[i * 12 + 3]? = some (.slice (some ⟨gv, 0, none⟩) ys.length ys.length) ∧ lo ≤ gv ∧ gv < hi ∧ ys.length ≤ 1048576 ∧ IB w gv ys 3
section
variable {w W : World} {g n lo hi : Nat}
theorem Shape.below (h : Shape w g n lo hi) (hb : Below w.heap.size w W) : Shape W g n lo hi := by
  obtain ⟨L, h1, h2, h3, h4, h5⟩ := h
  exact ⟨L, blk_below h1 hb, h2, h3, h4, fun i hi => by
    obtain ⟨gv, ys, u1, u2, u3, u4, u5⟩ := h5 i hi
    exact ⟨gv, ys, u1, u2, u3, u4, u5.below hb⟩⟩
theorem Shape.kx {S : Nat → Prop} (h : Shape w g n lo hi) (k : Kx S w W) (hS : ∀ i, lo ≤ i → i < hi → ¬ S i) : Shape W g n lo hi := by
  obtain ⟨L, h1, h2, h3, h4, h5⟩ := h
  exact ⟨L, blk_kx h1 k (hS g h3 h4), h2, h3, h4, fun i hi => by
    obtain ⟨gv, ys, u1, u2, u3, u4, u5⟩ := h5 i hi
    exact ⟨gv, ys, u1, u2, u3, u4, blk_kx u5 k (hS gv u2 u3)⟩⟩
theorem Shape.cell (h : Shape w g n lo hi) {i : Nat} (hi : i < n) {j : Nat} (hj : j < 12) : ∃ u, w.cell? ⟨g, i * 12 + j, none⟩ = some u := by
  obtain ⟨L, h1, h2, _⟩ := h
  have : i * 12 + j < L.length := by omega
  exact ⟨L[i * 12 + j], by rw [blk_cell h1]; simp [this]⟩
theorem Shape.free (h : Shape w g n lo hi) (j : Nat) : w.frozen? ⟨g, j, none⟩ = false := by
  obtain ⟨L, h1, _⟩ := h
  exact blk_frozen h1 j
theorem Shape.vec (h : Shape w g n lo hi) {i : Nat} (hi' : i < n) : ∃ (gv : Nat) (ys : List Int), w.cell? ⟨g, i * 12 + 3, none⟩ = some (.slice (some ⟨gv, 0, none⟩) ys.length ys.length) ∧ lo ≤ gv ∧ gv < hi ∧ ys.length ≤ 1048576 ∧ IB w gv ys 3 := by
  obtain ⟨L, h1, h2, h3, h4, h5⟩ := h
  obtain ⟨gv, ys, u1, u2⟩ := h5 i hi'
  exact ⟨gv, ys, by rw [blk_cell h1]; simpa using u1, u2⟩
theorem Shape.store (h : Shape w g n lo hi) {i : Nat} (hi' : i < n) {j : Nat} (hj : j < 12) (h3 : j ≠ 3) (v : Value) : Shape (w.setCell ⟨g, i * 12 + j, none⟩ v) g n lo hi := by
  obtain ⟨L, h1, h2, hlo, hhi, h5⟩ := h
  refine ⟨L.set (i * 12 + j) v, blk_setL h1 _ _, by simpa using h2, hlo, hhi, fun k hk => ?_⟩
  obtain ⟨gv, ys, u1, u2, u3, u4, u5⟩ := h5 k hk
  refine ⟨gv, ys, ?_, u2, u3, u4, ?_⟩
  · rw [List.getElem?_set_ne (by omega)]; exact u1
  · have hne : gv ≠ g := blk_neT u5 h1 rfl
    exact (Below.heap_setCell _ _ _ _ hne).trans u5
/-- One of its vectors written over. -/
theorem Shape.mark (h : Shape w g n lo hi) {gv : Nat} {ys zs : List Int} (hv : IB w gv ys 3) (k : Kx (fun k => k = gv) w W) (hz : IB W gv zs 3) (hl : zs.length = ys.length) : Shape W g n lo hi := by
  obtain ⟨L, h1, h2, hlo, hhi, h5⟩ := h
  refine ⟨L, blk_kx h1 k (Ne.symm (blk_neT hv h1 rfl)), h2, hlo, hhi, fun i hi' => ?_⟩
  obtain ⟨gu, us, u1, u2, u3, u4, u5⟩ := h5 i hi'
  by_cases e : gu = gv
  · subst e
    have he : us.length = ys.length := by
      have := u5.symm.trans hv
      injection this with this
      injection this with this _ _
      have := congrArg Array.size this
      simpa using this
    refine ⟨gu, zs, ?_, u2, u3, by omega, hz⟩
    rw [hl, ← he]; exact u1
  · exact ⟨gu, us, u1, u2, u3, u4, blk_kx u5 k e⟩
end
end Go.Proofs.Ytideafkiaipnoaa.Q
