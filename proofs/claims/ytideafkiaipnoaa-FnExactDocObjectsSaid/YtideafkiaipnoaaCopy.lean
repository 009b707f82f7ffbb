/- A log's copy, as far as it has come. -/
import Derived.Test.YtideafkiaipnoaaShape
namespace Go.Proofs.Ytideafkiaipnoaa.Q
open Go Go.RowKit Go.Proofs.YtideafkiaipnoaaW.PrintWords Go.Proofs.Ytideafkiaipnoaa.Deed
/-- In the block g (for all of os) the first i operations are copied; their vectors are whole blocks from lo on. -/
def Cop (w : World) (lo g : Nat) (os : List Op) (i : Nat) : Prop := ∃ (L : List Value) (V : Nat → Nat), w.heap[g]? = some (.cells L.toArray 67 (0, 0)) ∧ L.length = os.length * 12 ∧ lo ≤ g ∧
  ∀ j o, os[j]? = some o → j < i → lo ≤ V j ∧ (∀ t, t < 12 → L[j * 12 + t]? = (opc o (some ⟨V j, 0, none⟩) o.deps.length)[t]?) ∧ IB w (V j) o.deps 3
section
variable {w W : World} {g lo : Nat} {os : List Op} {i : Nat}
theorem Cop.below (h : Cop w lo g os i) (hb : Below w.heap.size w W) : Cop W lo g os i := by
  obtain ⟨L, V, h1, h2, h3, h4⟩ := h
  exact ⟨L, V, blk_below h1 hb, h2, h3, fun j o ho hj => ⟨(h4 j o ho hj).1, (h4 j o ho hj).2.1, (h4 j o ho hj).2.2.below hb⟩⟩
theorem Cop.start {L : List Value} (h : w.heap[g]? = some (.cells L.toArray 67 (0, 0))) (hl : L.length = os.length * 12) (hlo : lo ≤ g) : Cop w lo g os 0 := ⟨L, fun _ => 0, h, hl, hlo, fun j o _ hj => by omega⟩
theorem Cop.cells (h : Cop w lo g os i) {k : Nat} (hk : k < os.length) : ∀ j, j < 12 → (w.cell? ⟨g, k * 12 + j, none⟩).isSome = true := by
  obtain ⟨L, V, h1, h2, _⟩ := h
  intro j hj
  have : k * 12 + j < L.length := by omega
  rw [blk_cell h1]
  simp [this]
theorem Cop.free (h : Cop w lo g os i) (j : Nat) : w.frozen? ⟨g, j, none⟩ = false := by
  obtain ⟨L, V, h1, _⟩ := h
  exact blk_frozen h1 j
theorem Cop.store (h : Cop w lo g os i) {o : Op} (ho : os[i]? = some o) {gv : Nat} (hv : IB w gv o.deps 3) (hlo : lo ≤ gv) : Cop (w.setCells g (i * 12) (opc o (some ⟨gv, 0, none⟩) o.deps.length)) lo g os (i + 1) := by
  obtain ⟨L, V, h1, h2, h3, h4⟩ := h
  have hi : i < os.length := (List.getElem?_eq_some_iff.1 ho).1
  have hne : gv ≠ g := blk_neT hv h1 rfl
  refine ⟨_, fun j => if j = i then gv else V j, blk_stored _ (i * 12) w L h1 (by simp; omega), by simp; omega, h3, fun j o' ho' hj => ?_⟩
  by_cases e : j = i
  · subst e
    rw [ho] at ho'
    cases ho'
    simp only [if_true]
    refine ⟨hlo, fun t ht => ?_, (setCells_far _ _ _ hne).trans hv⟩
    rw [List.append_assoc, List.getElem?_append_right (by simp; omega), List.getElem?_append_left (by simp; omega)]
    congr 1
    simp
    omega
  · obtain ⟨u1, u2, u3⟩ := h4 j o' ho' (by omega)
    simp only [if_neg e]
    refine ⟨u1, fun t ht => ?_, (setCells_far _ _ _ (blk_neT u3 h1 rfl)).trans u3⟩
    rw [List.append_assoc, List.getElem?_append_left (by simp; omega), List.getElem?_take_of_lt (by omega)]
    exact u2 t ht
theorem Cop.RO (h : Cop w lo g os os.length) : ∃ D, RO w (some ⟨g, 0, none⟩) os D fun j => (os.getD j default).deps.length := by
  obtain ⟨L, V, h1, h2, h3, h4⟩ := h
  refine ⟨fun j => some ⟨V j, 0, none⟩, fun j o ho => ?_⟩
  have hj : j < os.length := (List.getElem?_eq_some_iff.1 ho).1
  have hd : os.getD j default = o := by simp [List.getD_eq_getElem?_getD, ho]
  obtain ⟨u1, u2, u3⟩ := h4 j o ho hj
  refine ⟨rfl, fun t u hu => ?_, u3.RI, by simp only [hd]; omega⟩
  simp only [hd] at hu
  have ht : t < 12 := by have := (List.getElem?_eq_some_iff.1 hu).1; simpa using this
  show w.cell? ((⟨g, 0, none⟩ : Addr).add (j * 12 + t)) = some u
  rw [add_mk, Nat.zero_add, blk_cell h1]
  simp only [List.getElem?_toArray]
  rw [u2 t ht]
  exact hu
theorem Cop.shape (h : Cop w lo g os os.length) (hd : ∀ o ∈ os, o.deps.length ≤ 1048576) : Shape w g os.length lo w.heap.size := by
  obtain ⟨L, V, h1, h2, h3, h4⟩ := h
  refine ⟨L, h1, h2, h3, blk_lt h1, fun i hi => ?_⟩
  obtain ⟨u1, u2, u3⟩ := h4 i os[i] (by simp [hi]) hi
  exact ⟨V i, os[i].deps, by rw [u2 3 (by omega)]; rfl, u1, blk_lt u3, hd _ (List.getElem_mem hi), u3⟩
end
theorem x_makeO {P : Program} {ρ : Operand → Value} {o : Oper} {w : World} {x y : Operand} {t e : TypeId} {a : Int} {n size bytes : Nat} {z : Value} (ho : o.op = .makeSlice t x y) (hx : ρ x = .int .i64 a) (hy : ρ y = .int .i64 a) (ht : P.underlying t = some (.slice e)) (hi : (P.info? e).map (fun i => (i.zero, i.size, i.bytes)) = some (some z, size, bytes)) (ha : a = (n : Int)) (hn : n ≤ 1048576) (hs : size ≤ 1024) (hb : bytes ≤ 1048576) :
    ∃ L : List Value, L.length = n * size ∧ (execOp ρ o).run P w = .ok (.value (.slice (some ⟨w.heap.size, 0, none⟩) n n)) (w.alloc (.cells L.toArray e)) := by
  obtain ⟨i, h1, h2⟩ := Option.map_eq_some_iff.1 hi
  simp only [Prod.mk.injEq] at h2
  obtain ⟨h2, h3, h4⟩ := h2
  subst ha
  have hbn : (bytes : Int) * (n : Int) ≤ 1048576 * 1048576 := Int.mul_le_mul (by omega) (by omega) (by omega) (by omega)
  have hr := run_make (P := P) w t e i _ ht h1 h2 .i64 .i64 n n (by omega) (by omega) (by rw [h4]; omega) (by omega)
  rw [h3] at hr
  simp only [Int.toNat_natCast] at hr
  refine ⟨(madeCells z.cells (n * size)).toList, by simpa using size_madeCells _ _, ?_⟩
  unfold execOp
  simp [ho, hx, hy, hr]
theorem rmakeO {P : Program} {ops : Array Oper} {l : List FS} {dead : List (List Nat)} {k : Nat} {o : Oper} {ac : Act} {W : World} {x y : Operand} {t e : TypeId} {a : Int} {n size bytes : Nat} {z : Value} (hgr : AllGrow (l.map FS.H)) (hg : o.guard = none) (ho : o.op = .makeSlice t x y) (hx : ac.eval x = .int .i64 a) (hy : ac.eval y = .int .i64 a) (ht : P.underlying t = some (.slice e)) (hi : (P.info? e).map (fun i => (i.zero, i.size, i.bytes)) = some (some z, size, bytes)) (ha : a = (n : Int)) (hn : n ≤ 1048576) (hs : size ≤ 1024) (hb : bytes ≤ 1048576)
    (hF : ∀ (L : List Value) (W' : World), L.length = n * size → W'.heap[W.heap.size]? = some (.cells L.toArray e (0, 0)) → LH l k (upd (sl ac) o.dst (.slice (some ⟨W.heap.size, 0, none⟩) n n)) W') : Runs P ops o ac W (OweL l dead k o (sl ac) W) := by
  obtain ⟨L, hL, hr⟩ := x_makeO (P := P) (w := W) (ρ := ac.eval) ho hx hy ht hi ha hn hs hb
  exact runs_val (wanted_none hg) hr (owe_grow hgr (below_alloc (Below.refl _ _) _) (hF L _ hL (heap_alloc_new _ _)))
end Go.Proofs.Ytideafkiaipnoaa.Q
