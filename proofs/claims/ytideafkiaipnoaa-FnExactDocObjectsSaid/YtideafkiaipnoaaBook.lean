/- The book: a log taken apart, as it lies in memory. -/
import Derived.Test.YtideafkiaipnoaaRow
namespace Go.Proofs.Ytideafkiaipnoaa.Q
open Go Go.RowKit Go.Proofs.YtideafkiaipnoaaW.PrintWords Go.Proofs.YtideafkiaipnoaaW.PrintLast Go.Proofs.Ytideafkiaipnoaa.Deed

/-- An operation, and where its vector is. -/
structure LO where
  o : Op
  A : Option Addr
  c : Nat
instance : Inhabited LO := ⟨⟨default, none, 0⟩⟩
/-- A located operation's cells, its vector read in w. -/
def LoIn (w : World) (x : LO) (cs : List Value) : Prop := cs = opc x.o x.A x.c ∧ RI w x.A x.o.deps ∧ x.o.deps.length ≤ x.c
structure Bk where
  of : List (List LO)
  kind : List Int
  size : Int
  top : Int × Int

def bookCells (vs : List Value) (B : Bk) : List Value := vs ++ (B.kind.map (Value.int .i64) ++ [.int .i64 B.size, .int .i64 B.top.1, .int .i64 B.top.2])

/-- Two rows of the book are two blocks. -/
def Apart (vs : List Value) : Prop := ∀ (i j : Nat) (u v : Value), i ≠ j → vs[i]? = some u → vs[j]? = some v → NeRow u v

def Rows (w0 : World) (ok : Nat → Prop) (w : World) (vs : List Value) (of : List (List LO)) : Prop :=
  ∀ (i : Nat) (v : Value) (ps : List LO), vs[i]? = some v → of[i]? = some ps → OwnRow (LoIn w0) 67 12 w 0 v ps ∧ ∀ k, v.ownBlock = some k → ok k

/-- The book B lies at g; w0: the world in which its operations' vectors are read; ok: its blocks. -/
structure BookAt (w0 : World) (ok : Nat → Prop) (w : World) (g : Nat) (vs : List Value) (B : Bk) : Prop where
  okg : ok g
  lvs : vs.length = 16
  lof : B.of.length = 16
  lkind : B.kind.length = 101
  blk : w.heap[g]? = some (.cells (bookCells vs B).toArray 75 (0, 0))
  rows : Rows w0 ok w vs B.of
  apart : Apart vs

theorem bc_of {vs : List Value} {B : Bk} {i : Nat} (h : i < vs.length) : (bookCells vs B)[i]? = vs[i]? := by
  unfold bookCells
  rw [List.getElem?_append_left h]
theorem bc_kind {vs : List Value} {B : Bk} (h : vs.length = 16) {i : Nat} (hi : i < B.kind.length) : (bookCells vs B)[16 + i]? = some (.int .i64 (B.kind.getD i 0)) := by
  unfold bookCells
  rw [List.getElem?_append_right (by omega), List.getElem?_append_left (by simp; omega)]
  simp [h, List.getD_eq_getElem?_getD, hi]
theorem bc_tail {vs : List Value} {B : Bk} (h : vs.length = 16) (hk : B.kind.length = 101) (i : Nat) : (bookCells vs B)[117 + i]? = [Value.int .i64 B.size, .int .i64 B.top.1, .int .i64 B.top.2][i]? := by
  unfold bookCells
  rw [List.getElem?_append_right (by omega), List.getElem?_append_right (by simp; omega)]
  congr 1
  simp
  omega
section
variable {w0 w w' : World} {ok ok' : Nat → Prop} {g : Nat} {vs : List Value} {B : Bk}
theorem BookAt.cell (h : BookAt w0 ok w g vs B) (i : Nat) : w.cell? ⟨g, i, none⟩ = (bookCells vs B)[i]? := by
  rw [blk_cell h.blk]
  simp
theorem BookAt.free (h : BookAt w0 ok w g vs B) (i : Nat) : w.frozen? ⟨g, i, none⟩ = false := blk_frozen h.blk i
theorem BookAt.cof (h : BookAt w0 ok w g vs B) {i : Nat} (hi : i < 16) : w.cell? ⟨g, i, none⟩ = some (vs.getD i undef) := by
  rw [h.cell, bc_of (by rw [h.lvs]; exact hi)]
  simp [List.getD_eq_getElem?_getD, h.lvs, hi]
theorem BookAt.ckind (h : BookAt w0 ok w g vs B) {i : Nat} (hi : i < 101) : w.cell? ⟨g, 16 + i, none⟩ = some (.int .i64 (B.kind.getD i 0)) := by
  rw [h.cell, bc_kind h.lvs (by rw [h.lkind]; exact hi)]
theorem BookAt.csize (h : BookAt w0 ok w g vs B) : w.cell? ⟨g, 117, none⟩ = some (.int .i64 B.size) := by
  rw [h.cell, show 117 = 117 + 0 from rfl, bc_tail h.lvs h.lkind]; rfl
theorem BookAt.ctop0 (h : BookAt w0 ok w g vs B) : w.cell? ⟨g, 118, none⟩ = some (.int .i64 B.top.1) := by
  rw [h.cell, show 118 = 117 + 1 from rfl, bc_tail h.lvs h.lkind]; rfl
theorem BookAt.ctop1 (h : BookAt w0 ok w g vs B) : w.cell? ⟨g, 119, none⟩ = some (.int .i64 B.top.2) := by
  rw [h.cell, show 119 = 117 + 2 from rfl, bc_tail h.lvs h.lkind]; rfl
theorem BookAt.lt (h : BookAt w0 ok w g vs B) : g < w.heap.size := blk_lt h.blk
theorem BookAt.row (h : BookAt w0 ok w g vs B) {i : Nat} (hi : i < 16) : OwnRow (LoIn w0) 67 12 w 0 (vs.getD i undef) (B.of.getD i []) ∧ ∀ k, (vs.getD i undef).ownBlock = some k → ok k :=
  h.rows i _ _ (by simp [List.getD_eq_getElem?_getD, h.lvs, hi]) (by simp [List.getD_eq_getElem?_getD, h.lof, hi])
/-- What leaves the book's blocks alone leaves the book. -/
theorem BookAt.kept {S : Nat → Prop} (h : BookAt w0 ok w g vs B) (hk : Kept w w' S) (hS : ∀ k, ok k → ¬ S k) : BookAt w0 ok w' g vs B := by
  refine ⟨h.okg, h.lvs, h.lof, h.lkind, (hk.2 g h.lt (hS g h.okg)).trans h.blk, ?_, h.apart⟩
  intro i v ps hv hps
  obtain ⟨⟨inner, ho, hr⟩, hok⟩ := h.rows i v ps hv hps
  exact ⟨⟨inner, own_move ho (fun k hk' => hk.2 k (own_lt ho k hk') (hS k (hok k hk'))), hr⟩, hok⟩
theorem BookAt.below (h : BookAt w0 ok w g vs B) (hb : Below w.heap.size w w') : BookAt w0 ok w' g vs B := h.kept (S := fun _ => False) (Kept.of_below hb _) (fun _ _ h => h)
theorem BookAt.imp (h : BookAt w0 ok w g vs B) (hok : ∀ k, ok k → ok' k) : BookAt w0 ok' w g vs B :=
  ⟨hok g h.okg, h.lvs, h.lof, h.lkind, h.blk, fun i v ps hv hps => ⟨(h.rows i v ps hv hps).1, fun k hk => hok k ((h.rows i v ps hv hps).2 k hk)⟩, h.apart⟩
/-- The row a is v1 already, the book's cell still the old one. -/
structure Mid (w0 : World) (ok : Nat → Prop) (w : World) (g : Nat) (vs : List Value) (B : Bk) (a : Nat) (v1 : Value) (ps : List LO) : Prop where
  okg : ok g
  lvs : vs.length = 16
  lof : B.of.length = 16
  lkind : B.kind.length = 101
  blk : w.heap[g]? = some (.cells (bookCells vs B).toArray 75 (0, 0))
  rows : Rows w0 ok w (vs.set a v1) (B.of.set a ps)
  apart : Apart (vs.set a v1)
  slice : ∃ A n c, v1 = .slice A n c
theorem BookAt.mid (h : BookAt w0 ok w g vs B) {a : Nat} (ha : a < 16) {v1 : Value} {ps : List LO} (hr : OwnRow (LoIn w0) 67 12 w' 0 v1 ps) (hg : w.grownBy w' (vs.getD a undef).ownBlock)
    (hat : v1.ownBlock = (vs.getD a undef).ownBlock ∨ v1.ownBlock = some w.heap.size) {N : Nat} (hN : N ≤ w.heap.size) : Mid w0 (fun k => ok k ∨ N ≤ k) w' g vs B a v1 ps := by
  obtain ⟨hra, hoka⟩ := h.row ha
  have hga : some g ≠ (vs.getD a undef).ownBlock := hra.ne_block h.blk (by decide)
  have hva : vs[a]? = some (vs.getD a undef) := by simp [List.getD_eq_getElem?_getD, h.lvs, ha]
  refine ⟨.inl h.okg, h.lvs, h.lof, h.lkind, (hg.block g h.lt hga).trans h.blk, ?_, ?_, ?_⟩
  · intro i v ps' hv hps
    by_cases hi : i = a
    · subst hi
      rw [List.getElem?_set_self (by rw [h.lvs]; exact ha)] at hv
      rw [List.getElem?_set_self (by rw [h.lof]; exact ha)] at hps
      cases hv
      cases hps
      refine ⟨hr, fun k hk => ?_⟩
      rcases hat with e | e
      · exact .inl (hoka k (e ▸ hk))
      · rw [e] at hk
        injection hk with hk
        exact .inr (by omega)
    · rw [List.getElem?_set_ne (Ne.symm hi)] at hv hps
      obtain ⟨ho, hok⟩ := h.rows i v ps' hv hps
      exact ⟨ho.other hg (ne_other (h.apart a i _ _ (Ne.symm hi) hva hv)), fun k hk => .inl (hok k hk)⟩
  · have hv1 : ∀ i u, i ≠ a → vs[i]? = some u → NeRow v1 u := by
      intro i u hi hu k hk hk'
      rcases hat with e | e
      · exact h.apart a i _ _ (Ne.symm hi) hva hu k (e ▸ hk) hk'
      · rw [e] at hk
        injection hk with hk
        have hil : i < 16 := by have := (List.getElem?_eq_some_iff.1 hu).1; rw [h.lvs] at this; exact this
        obtain ⟨⟨inner, ho, _⟩, _⟩ := h.rows i u (B.of.getD i []) hu (by simp [List.getD_eq_getElem?_getD, h.lof, hil])
        have := own_lt ho k hk'
        omega
    intro i j u v hij hu hv
    by_cases hi : i = a
    · subst hi
      rw [List.getElem?_set_self (by rw [h.lvs]; exact ha)] at hu
      rw [List.getElem?_set_ne hij] at hv
      cases hu
      exact hv1 j v (Ne.symm hij) hv
    · rw [List.getElem?_set_ne (Ne.symm hi)] at hu
      by_cases hj : j = a
      · subst hj
        rw [List.getElem?_set_self (by rw [h.lvs]; exact ha)] at hv
        cases hv
        exact ne_symm (hv1 i u hi hu)
      · rw [List.getElem?_set_ne (Ne.symm hj)] at hv
        exact h.apart i j u v hij hu hv
  · obtain ⟨A, c, e, _⟩ := hr.slice_
    exact ⟨A, _, c, e⟩
theorem Rows.set_cell {of : List (List LO)} (h : Rows w0 ok w vs of) {cells : Array Value} (hb : w.heap[g]? = some (.cells cells 75 (0, 0))) (i : Nat) (u : Value) : Rows w0 ok (w.setCell ⟨g, i, none⟩ u) vs of :=
  fun j v ps hv hps => ⟨(h j v ps hv hps).1.set_ hb (by decide) i u, (h j v ps hv hps).2⟩
theorem Mid.store {a : Nat} {v1 : Value} {ps : List LO} (h : Mid w0 ok w g vs B a v1 ps) (ha : a < 16) : BookAt w0 ok (w.setCell ⟨g, a, none⟩ v1) g (vs.set a v1) { B with of := B.of.set a ps } := by
  refine ⟨h.okg, by simpa using h.lvs, by simpa using h.lof, h.lkind, ?_, h.rows.set_cell h.blk _ _, h.apart⟩
  have := blk_set h.blk a v1
  rw [this]
  congr 2
  rw [List.setIfInBounds_toArray]
  congr 1
  unfold bookCells
  rw [List.set_append_left _ _ (by rw [h.lvs]; exact ha)]
theorem Mid.cof {a : Nat} {v1 : Value} {ps : List LO} (h : Mid w0 ok w g vs B a v1 ps) (ha : a < 16) : w.cell? ⟨g, a, none⟩ = some (vs.getD a undef) := by
  rw [blk_cell h.blk]
  simp [bc_of (show a < vs.length by rw [h.lvs]; exact ha), List.getD_eq_getElem?_getD, h.lvs, ha]
theorem Mid.below {a : Nat} {v1 : Value} {ps : List LO} (h : Mid w0 ok w g vs B a v1 ps) (hb : Below w.heap.size w w') : Mid w0 ok w' g vs B a v1 ps :=
  ⟨h.okg, h.lvs, h.lof, h.lkind, blk_below h.blk hb, fun i v ps hv hps => ⟨by
    obtain ⟨⟨inner, ho, hr⟩, _⟩ := h.rows i v ps hv hps
    exact ⟨inner, own_move ho (fun k hk => hb.block k (own_lt ho k hk)), hr⟩, (h.rows i v ps hv hps).2⟩, h.apart, h.slice⟩
theorem kept_set (S : Nat → Prop) (h : S g) (i : Nat) (u : Value) : Kept w (w.setCell ⟨g, i, none⟩ u) S := ⟨by simp, fun k _ hk => Below.heap_setCell w ⟨g, i, none⟩ u k (fun e => hk (e ▸ h))⟩
theorem BookAt.setKind (h : BookAt w0 ok w g vs B) {i : Nat} (hi : i < 101) (x : Int) : BookAt w0 ok (w.setCell ⟨g, 16 + i, none⟩ (.int .i64 x)) g vs { B with kind := B.kind.set i x } := by
  refine ⟨h.okg, h.lvs, h.lof, by simpa using h.lkind, ?_, h.rows.set_cell h.blk _ _, h.apart⟩
  have := blk_set h.blk (16 + i) (.int .i64 x)
  rw [this]
  congr 2
  rw [List.setIfInBounds_toArray]
  congr 1
  unfold bookCells
  rw [List.set_append_right _ _ (by rw [h.lvs]; omega), h.lvs, show 16 + i - 16 = i by omega, List.set_append_left _ _ (by simp [h.lkind]; omega)]
  simp [List.map_set]
theorem BookAt.setSize (h : BookAt w0 ok w g vs B) (x : Int) : BookAt w0 ok (w.setCell ⟨g, 117, none⟩ (.int .i64 x)) g vs { B with size := x } := by
  refine ⟨h.okg, h.lvs, h.lof, h.lkind, ?_, h.rows.set_cell h.blk _ _, h.apart⟩
  have := blk_set h.blk 117 (.int .i64 x)
  rw [this]
  congr 2
  rw [List.setIfInBounds_toArray]
  congr 1
  unfold bookCells
  rw [List.set_append_right _ _ (by rw [h.lvs]; omega), h.lvs, List.set_append_right _ _ (by simp [h.lkind])]
  simp [h.lkind]
theorem set_tail {vs K T : List Value} (h : vs.length = 16) (hk : K.length = 101) (i : Nat) (x : Value) : (vs ++ (K ++ T)).set (117 + i) x = vs ++ (K ++ T.set i x) := by
  rw [List.set_append_right _ _ (by omega), List.set_append_right _ _ (by omega)]
  congr 3
  omega
theorem BookAt.setTop (h : BookAt w0 ok w g vs B) (x y : Int) : BookAt w0 ok (w.setCells g 118 [.int .i64 x, .int .i64 y]) g vs { B with top := (x, y) } := by
  have h1 := blk_set h.blk 118 (.int .i64 x)
  have h2 := blk_set h1 119 (.int .i64 y)
  have r1 := h.rows.set_cell h.blk 118 (.int .i64 x)
  refine ⟨h.okg, h.lvs, h.lof, h.lkind, ?_, ?_, h.apart⟩
  · show ((w.setCell ⟨g, 118, none⟩ (.int .i64 x)).setCell ⟨g, 119, none⟩ (.int .i64 y)).heap[g]? = _
    rw [h2]
    congr 2
    rw [List.setIfInBounds_toArray, List.setIfInBounds_toArray]
    congr 1
    unfold bookCells
    rw [show 118 = 117 + 1 from rfl, set_tail h.lvs (by simp [h.lkind])]
    show (vs ++ _).set (117 + 2) _ = _
    rw [set_tail h.lvs (by simp [h.lkind])]
    rfl
  · exact r1.set_cell h1 119 (.int .i64 y)
theorem BookAt.ctop (h : BookAt w0 ok w g vs B) : ∀ (j : Nat) (u : Value), [Value.int .i64 B.top.1, .int .i64 B.top.2][j]? = some u → w.cell? ((⟨g, 118, none⟩ : Addr).add j) = some u := by
  intro j u hu
  rw [add_mk, h.cell, show 118 + j = 117 + (1 + j) by omega, bc_tail h.lvs h.lkind]
  rw [show 1 + j = j + 1 by omega, List.getElem?_cons_succ]
  exact hu
end
end Go.Proofs.Ytideafkiaipnoaa.Q
