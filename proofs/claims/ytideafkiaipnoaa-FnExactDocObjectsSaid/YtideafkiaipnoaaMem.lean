/- Operations that make or write memory. -/
import Derived.Test.YtideafkiaipnoaaRun
namespace Go.Proofs.Ytideafkiaipnoaa.Deed
open Go Go.RowKit Go.Proofs.YtideafkiaipnoaaW.PrintWords
section
variable {P : Program} {ρ : Operand → Value} {o : Oper} {w : World} {x y z : Operand} {t e : TypeId} {v : Value}
theorem x_box (ho : o.op = .box t x) (h : ρ x = v) : (execOp ρ o).run P w = .ok (.value (.pointer (some ⟨w.heap.size, 0, none⟩))) (w.alloc (.cells v.cells t)) := by
  unfold execOp
  simp [ho, h, Instr.box, newVar, newRow]
theorem x_alloc {z : Value} (ho : o.op = .alloc t) (hz : (P.info? t).map (·.zero) = some (some z)) : (execOp ρ o).run P w = .ok (.value (.pointer (some ⟨w.heap.size, 0, none⟩))) (w.alloc (.cells z.cells t)) := by
  obtain ⟨i, h1, h2⟩ := Option.map_eq_some_iff.1 hz
  unfold execOp
  simp [ho, Instr.alloc, newVar, newRow, zeroValue, typeInfo, h1, h2]
theorem cells_one (h : v.oneCell' = true) : v.cells = #[v] := by cases v <;> simp_all [Value.oneCell', Value.cells]
theorem x_store1 {ad : Addr} {u : Value} (ho : o.op = .store t x y) (hx : ρ x = .pointer (some ad)) (hy : ρ y = v) (h1 : v.oneCell' = true) (hs : (P.info? t).map (·.size) = some 1) (hc : w.cell? ad = some u) (hf : w.frozen? ad = false) :
    (execOp ρ o).run P w = .ok .skip (w.setCell ad v) := by
  obtain ⟨i, h2, h3⟩ := Option.map_eq_some_iff.1 hs
  have hst : (store (ad.add 0) v).run P w = .ok () (w.setCell ad v) := by
    rw [run_store P w _ v _ h1]
    simp [Addr.add, hc, hf]
  unfold execOp
  simp [ho, hx, hy, Instr.storeAt, Instr.sureAddr, storeVar, cells_one h1, sizeOf, typeInfo, h2, h3, storeCells, hst]
theorem x_storeS {g off : Nat} {cs : List Value} (ho : o.op = .store t x y) (hx : ρ x = .pointer (some ⟨g, off, none⟩)) (hy : ρ y = .agg cs.toArray) (h1 : ∀ v ∈ cs, v.oneCell' = true) (hs : (P.info? t).map (·.size) = some cs.length)
    (hc : ∀ j, j < cs.length → (w.cell? ⟨g, off + j, none⟩).isSome = true) (hf : ∀ j, j < cs.length → w.frozen? ⟨g, off + j, none⟩ = false) :
    (execOp ρ o).run P w = .ok .skip (w.setCells g off cs) := by
  obtain ⟨i, h2, h3⟩ := Option.map_eq_some_iff.1 hs
  have hst := run_storeCells_cells (P := P) g off cs 0 w (fun j hj => by simpa using hc j hj) (fun j hj => by simpa using hf j hj) h1
  simp only [Nat.add_zero] at hst
  unfold execOp
  simp [ho, hx, hy, Instr.storeAt, Instr.sureAddr, storeVar, Value.cells, sizeOf, typeInfo, h2, h3, hst]
/-- The block after a store of many cells. -/
theorem blk_stored {g : Nat} {T : TypeId} (cs : List Value) (off : Nat) (w : World) (L : List Value) (h : w.heap[g]? = some (.cells L.toArray T (0, 0))) (hl : off + cs.length ≤ L.length) :
    (w.setCells g off cs).heap[g]? = some (.cells (L.take off ++ cs ++ L.drop (off + cs.length)).toArray T (0, 0)) := by
  obtain ⟨cur, h1, _, h3⟩ := setCells_row cs off w L.toArray h (by simpa using hl)
  rw [h1]
  have : cur = (L.take off ++ cs ++ L.drop (off + cs.length)).toArray := by
    apply Array.ext'
    rw [h3]
  rw [this]
/-- A whole block stored. -/
theorem blk_whole {g : Nat} {T : TypeId} {w : World} {L cs : List Value} (h : w.heap[g]? = some (.cells L.toArray T (0, 0))) (hl : cs.length = L.length) : (w.setCells g 0 cs).heap[g]? = some (.cells cs.toArray T (0, 0)) := by
  have := blk_stored cs 0 w L h (by omega)
  simpa [hl] using this
theorem blk_others {g k : Nat} {w : World} {cs : List Value} {off : Nat} {ob : Obj} (h : w.heap[k]? = some ob) (hne : k ≠ g) : (w.setCells g off cs).heap[k]? = some ob := (setCells_far cs off k hne).trans h
theorem kept_cells {g : Nat} {w : World} {cs : List Value} {off : Nat} (S : Nat → Prop) (h : S g) : Kept w (w.setCells g off cs) S :=
  ⟨by rw [(setCells_same g cs off w).2.2.2]; exact Nat.le_refl _, fun i _ hS => setCells_far cs off i (fun e => hS (e ▸ h))⟩
theorem below_cells {g B : Nat} {w w' : World} {cs : List Value} {off : Nat} (h : Below B w w') (hg : B ≤ g) : Below B w (w'.setCells g off cs) := by
  obtain ⟨h1, h2, h3, h4⟩ := setCells_same g cs off w'
  exact ⟨h1.trans h.os, h2.trans h.tape, h3.trans h.output, by rw [h4]; exact h.size, fun i hi => (setCells_far cs off i (by omega)).trans (h.block i hi)⟩
theorem zip_fill (cs : List Value) : ∀ (off : Nat) (A : Array Value), off + cs.length ≤ A.size → (cs.zipIdx off).foldl (fun (B : Array Value) (p : Value × Nat) => B.setIfInBounds p.2 p.1) A = (A.toList.take off ++ cs ++ A.toList.drop (off + cs.length)).toArray := by
  induction cs with
  | nil => intro off A _; simp
  | cons c r ih =>
    intro off A h
    simp only [List.length_cons] at h
    rw [List.zipIdx_cons, List.foldl_cons, ih (off + 1) _ (by simp; omega)]
    congr 1
    have ho : off < A.toList.length := by rw [Array.length_toList]; omega
    rw [Array.toList_setIfInBounds, List.take_set, List.drop_set_of_lt (by omega)]
    simp only [List.length_cons]
    rw [show off + 1 + r.length = off + (r.length + 1) by omega, List.take_add_one, List.getElem?_eq_getElem ho]
    simp only [Option.toList_some]
    rw [List.set_append_right _ _ (by simp; omega)]
    rw [Array.length_toList] at ho
    simp [Nat.min_eq_left (Nat.le_of_lt ho)]
/-- A slice literal of one element. -/
theorem x_build1 {z v : Value} {n : Nat} (ho : o.op = .buildSlice t 1 #[(0, x)]) (ht : P.underlying t = some (.slice e)) (hi : (P.info? e).map (fun i => (i.zero, i.size)) = some (some z, n)) (hn : 0 < n) (hn2 : n ≤ 16777216) (h : ρ x = v) (hv : v.cells.size = n) :
    (execOp ρ o).run P w = .ok (.value (.slice (some ⟨w.heap.size, 0, none⟩) 1 1)) (w.alloc (.cells v.cells e)) := by
  obtain ⟨i, h1, h2⟩ := Option.map_eq_some_iff.1 hi
  simp only [Prod.mk.injEq] at h2
  obtain ⟨h2, h3⟩ := h2
  have hne : n ≠ 0 := by omega
  have hsz : ((Array.range (1 * n)).map fun x => z.cells[x % z.cells.size]!).size = n := by simp
  have hf : Instr.fill (fun i => some (i * n, n)) ((Array.range (1 * n)).map fun x => z.cells[x % z.cells.size]!) [(0, v)] = some v.cells := by
    simp only [Instr.fill, Nat.zero_mul, Nat.zero_add, hv, hsz]
    rw [if_neg (by simp)]
    congr 1
    rw [← Array.foldl_toList, Array.toList_zipIdx]
    have := zip_fill v.cells.toList 0 ((Array.range (1 * n)).map fun x => z.cells[x % z.cells.size]!) (by simp [hv])
    rw [this]
    rw [List.take_zero, List.nil_append, Array.length_toList, hv, Nat.zero_add, List.drop_eq_nil_of_le (by simp)]
    simp
  unfold execOp
  simp only [ho, List.map_toArray, List.map_cons, List.map_nil, h]
  simp [Instr.buildSlice, run_underlying ht, sizeOf, typeInfo, h1, h3, hne, zeroValue, h2, newRow]
  rw [Nat.one_mul] at hf
  rw [if_neg (by omega), hf]
  simp
end
section
variable {P : Program} {ρ : Operand → Value} {o : Oper} {w : World} {x y : Operand} {t e : TypeId} {α : Type} {R : α → List Value → Prop}
/-- append(v, p), p in a block of its own. -/
theorem x_append (ho : o.op = .call { callee := .builtin .append, args := #[x, y], argTypes := #[t, t] }) {z : Value} {size bytes : Nat} (ht : P.underlying t = some (.slice e)) (hinfo : (P.info? e).map (fun i => (i.zero, i.size, i.bytes)) = some (some z, size, bytes)) (hz : z.cells.size = size) (hs0 : 0 < size) (hb0 : 0 < bytes)
    {v : Value} {ps : List α} {p : α} {cs : List Value} {gb c : Nat} (hx : ρ x = v) (hy : ρ y = .slice (some ⟨gb, 0, none⟩) 1 c) (hb : w.heap[gb]? = some (.cells cs.toArray e (0, 0))) (hp : R p cs) (hcs : cs.length = size) (h1 : ∀ u ∈ cs, u.oneCell' = true)
    (HO : OwnRow R e size w 0 v ps) (hl : (ps.length + 1) * bytes ≤ 140737488355328) :
    ∃ v1 w1, (execOp ρ o).run P w = .ok (.value v1) w1 ∧ OwnRow R e size w1 0 v1 (ps ++ [p]) ∧ w.grownBy w1 v.ownBlock ∧ (v1.ownBlock = v.ownBlock ∨ v1.ownBlock = some w.heap.size) := by
  obtain ⟨i0, hi, hzz⟩ := Option.map_eq_some_iff.1 hinfo
  simp only [Prod.mk.injEq] at hzz
  obtain ⟨hz0, hz1, hz2⟩ := hzz
  obtain ⟨inner, hown, hr⟩ := HO
  have hlen : ps.length + 1 ≤ 140737488355328 := Nat.le_trans (Nat.le_mul_of_pos_right _ hb0) hl
  obtain ⟨v1, w1, hrun, h2, hg, _, hat⟩ := run_append_own_at (P := P) w 0 t o.type e i0 z size bytes ht hi hz0 hz1 hz2 hz hs0 v ps.length inner hown ⟨gb, 0, none⟩ 1 c cs (by rw [hcs]; simp)
    (by simpa using World.news_of_block (cs := cs.toArray) (t := e) (fr := (0, 0)) hb) h1 (by simp only [maxLen]; omega) hl (by omega)
  refine ⟨v1, w1, ?_, ⟨inner ++ cs, by rw [List.length_append, List.length_singleton]; exact h2, hr.snoc hp hcs⟩, hg, hat⟩
  unfold execOp
  simp [ho, resolve, invoke, builtin, hx, hy, hrun]
end
theorem runs_append {ops : Array Oper} {o : Oper} {a : Act} {w : World} {P : Program} {x y : Operand} {t e : TypeId} {α : Type} {R : α → List Value → Prop} {K : Value → World → Prop} (hw : Region.wanted o (yielded ops a.tmps) = true)
    (ho : o.op = .call { callee := .builtin .append, args := #[x, y], argTypes := #[t, t] }) {z : Value} {size bytes : Nat} (ht : P.underlying t = some (.slice e)) (hinfo : (P.info? e).map (fun i => (i.zero, i.size, i.bytes)) = some (some z, size, bytes)) (hz : z.cells.size = size) (hs0 : 0 < size) (hb0 : 0 < bytes)
    {v : Value} {ps : List α} {p : α} {cs : List Value} {gb c : Nat} (hx : a.eval x = v) (hy : a.eval y = .slice (some ⟨gb, 0, none⟩) 1 c) (hb : w.heap[gb]? = some (.cells cs.toArray e (0, 0))) (hp : R p cs) (hcs : cs.length = size) (h1 : ∀ u ∈ cs, u.oneCell' = true)
    (HO : OwnRow R e size w 0 v ps) (hl : (ps.length + 1) * bytes ≤ 140737488355328)
    (h : ∀ v1 w1, OwnRow R e size w1 0 v1 (ps ++ [p]) → w.grownBy w1 v.ownBlock → (v1.ownBlock = v.ownBlock ∨ v1.ownBlock = some w.heap.size) → K v1 w1) : Runs P ops o a w K := by
  obtain ⟨v1, w1, hr, h2, h3, h4⟩ := x_append (ρ := a.eval) ho ht hinfo hz hs0 hb0 hx hy hb hp hcs h1 HO hl
  exact runs_val hw hr (h v1 w1 h2 h3 h4)
theorem kept_grow {w W W2 : World} {S : Nat → Prop} (h : Kept w W S) (hb : Below W.heap.size W W2) : Kept w W2 S := ⟨Nat.le_trans h.1 hb.size, fun i hi hs => (hb.block i (Nat.lt_of_lt_of_le hi h.1)).trans (h.2 i hi hs)⟩
theorem kept_tr {w W W2 : World} {S : Nat → Prop} (h : Kept w W S) (k : Kept W W2 S) : Kept w W2 S := ⟨Nat.le_trans h.1 k.1, fun i hi hs => (k.2 i (Nat.lt_of_lt_of_le hi h.1) hs).trans (h.2 i hi hs)⟩
theorem kept_wide {w W : World} {S T : Nat → Prop} (h : Kept w W S) (k : ∀ i, S i → T i) : Kept w W T := ⟨h.1, fun i hi hs => h.2 i hi (fun e => hs (k i e))⟩
theorem kept_blk {w W : World} {S : Nat → Prop} {g : Nat} {o : Obj} (h : Kept w W S) (hb : w.heap[g]? = some o) (hs : ¬ S g) : W.heap[g]? = some o := (h.2 g (blk_lt hb) hs).trans hb
theorem kept_of_grown {w W : World} {row : Option Nat} {S : Nat → Prop} (h : w.grownBy W row) (k : ∀ i, some i = row → S i) : Kept w W S := ⟨h.size, fun i hi hs => h.block i hi (fun e => hs (k i e))⟩
/-! ### Facts written out; the rule over them -/
/-- A fact on slots and memory: a slot's value; a slot that is written where G lets it; memory alone; memory and a slot or two. -/
inductive FS where
  | eq (d : Nat) (v : Value)
  | gv (G : Bool) (d : Nat) (v : Value)
  | w (f : World → Prop)
  | s1 (d : Nat) (f : Value → World → Prop)
  | s2 (d e : Nat) (f : Value → Value → World → Prop)
def FS.H : FS → (Nat → Value) → World → Prop
  | .eq d v => fun s _ => s d = v
  | .gv G d v => fun s _ => GV G (s d) v
  | .w f => fun _ w => f w
  | .s1 d f => fun s w => f (s d) w
  | .s2 d e f => fun s w => f (s d) (s e) w
def FS.fp : FS → List Nat
  | .eq d _ | .gv _ d _ | .s1 d _ => [d]
  | .w _ => []
  | .s2 d e _ => [d, e]
theorem FS.so : ∀ f : FS, SlotsOnly f.fp f.H
  | .eq d v => so_eq d [] v
  | .gv G d v => so_gv d [] G v
  | .w f => so_w [] f
  | .s1 d f => so_1 d f
  | .s2 d e f => so_2 d e f
def LH (l : List FS) (k : Nat) : (Nat → Value) → World → Prop := FL (l.map FS.H) k
def GrowL : List FS → Prop
  | [] => True
  | .eq _ _ :: r | .gv _ _ _ :: r => GrowL r
  | .w f :: r => (∀ w w', Below w.heap.size w w' → f w → f w') ∧ GrowL r
  | .s1 _ f :: r => (∀ v w w', Below w.heap.size w w' → f v w → f v w') ∧ GrowL r
  | .s2 _ _ f :: r => (∀ v u w w', Below w.heap.size w w' → f v u w → f v u w') ∧ GrowL r
theorem GrowL.all : ∀ {l : List FS}, GrowL l → AllGrow (l.map FS.H)
  | [], _ => trivial
  | .eq _ _ :: _, h => ⟨fun _ _ _ _ h => h, GrowL.all h⟩
  | .gv _ _ _ :: _, h => ⟨fun _ _ _ _ h => h, GrowL.all h⟩
  | .w _ :: _, h => ⟨fun _ w w' hb hf => h.1 w w' hb hf, GrowL.all h.2⟩
  | .s1 _ _ :: _, h => ⟨fun _ w w' hb hf => h.1 _ w w' hb hf, GrowL.all h.2⟩
  | .s2 _ _ _ :: _, h => ⟨fun _ w w' hb hf => h.1 _ _ w w' hb hf, GrowL.all h.2⟩
theorem all_so : ∀ (l : List FS), AllSlots (l.map FS.fp) (l.map FS.H)
  | [] => trivial
  | f :: r => ⟨f.so, all_so r⟩
/-- What is known before, from number n on. -/
def InitL (s : Nat → Value) (w : World) : List FS → Prop
  | [] => True
  | .eq d v :: r => s d = v ∧ InitL s w r
  | f :: r => (f.H s w ∧ f.H s { w with drawn := w.drawn + 1 }) ∧ InitL s w r
theorem InitL.all {s : Nat → Value} {w : World} : ∀ {l : List FS}, InitL s w l → ∀ f ∈ l, f.H s w ∧ f.H s { w with drawn := w.drawn + 1 }
  | [], _, f, hf => by cases hf
  | .eq d v :: r, h, f, hf => by
    rcases List.mem_cons.1 hf with e | e
    · subst e; exact ⟨h.1, h.1⟩
    · exact InitL.all h.2 f e
  | .gv _ _ _ :: r, h, f, hf | .w _ :: r, h, f, hf | .s1 _ _ :: r, h, f, hf | .s2 _ _ _ :: r, h, f, hf => by
    rcases List.mem_cons.1 hf with e | e
    · subst e; exact h.1
    · exact InitL.all h.2 f e
theorem init_all {F : Nat → (Nat → Value) → World → Prop} {s : Nat → Value} {w : World} : ∀ (m k : Nat), (∀ j, k ≤ j → j < k + m → F j s w ∧ F j s { w with drawn := w.drawn + 1 }) → InitAll F s w k m
  | 0, _, _ => trivial
  | m + 1, k, h => ⟨h k (Nat.le_refl _) (by omega), init_all m (k + 1) fun j h1 h2 => h j (by omega) (by omega)⟩
/-- What an operation owes, at these facts. -/
def OweL (l : List FS) (dead : List (List Nat)) (i : Nat) (o : Oper) (s : Nat → Value) (w : World) : Value → World → Prop := Owes (LH l) l.length dead i o s w
/-- Some facts, each as it is read. -/
def KnowL (s : Nat → Value) (w : World) (l : List FS) : List Nat → Prop
  | [] => True
  | k :: r => match l.getD k (.w fun _ => True) with
    | .eq d v => s d = v ∧ KnowL s w l r
    | .gv G d v => GV G (s d) v ∧ KnowL s w l r
    | .w f => f w ∧ KnowL s w l r
    | .s1 d f => f (s d) w ∧ KnowL s w l r
    | .s2 d e f => f (s d) (s e) w ∧ KnowL s w l r
theorem KnowL.of {s : Nat → Value} {w : World} {l : List FS} : ∀ {r : List Nat}, PreAll (LH l) s w r → KnowL s w l r
  | [], _ => trivial
  | k :: r, h => by
    have h0 := KnowL.of h.2
    have h1 : LH l k s w := h.1
    have h2 : LH l k = (l.getD k (.w fun _ => True)).H := by
      unfold LH FL
      simp only [List.getD_eq_getElem?_getD, List.getElem?_map]
      cases l[k]? <;> rfl
    rw [h2] at h1
    unfold KnowL
    cases h3 : l.getD k (.w fun _ => True) <;> (rw [h3] at h1; exact ⟨h1, h0⟩)
/-- What a store must keep. -/
def KeepL (s : Nat → Value) (W W' : World) (i : Nat) (dd : List Nat) : Nat → List FS → Prop
  | _, [] => True
  | k, .eq _ _ :: r | k, .gv _ _ _ :: r => KeepL s W W' i dd (k + 1) r
  | k, f :: r => match k == i || dd.contains k with
    | true => KeepL s W W' i dd (k + 1) r
    | false => (f.H s W → f.H s W') ∧ KeepL s W W' i dd (k + 1) r
theorem KeepL.get {s : Nat → Value} {W W' : World} {i : Nat} {dd : List Nat} : ∀ {l : List FS} {k0 : Nat}, KeepL s W W' i dd k0 l → ∀ j f, l[j]? = some f → k0 + j ∉ dd → k0 + j ≠ i → f.H s W → f.H s W'
  | [], _, _, j, f, hj, _, _, _ => by simp at hj
  | f0 :: r, k0, h, j, f, hj, hd, hi, hF => by
    cases j with
    | zero =>
      simp at hj
      subst hj
      cases f0 with
      | eq d v => exact hF
      | gv G d v => exact hF
      | w f | s1 d f | s2 d e f =>
        have e : (k0 == i || dd.contains k0) = false := by simpa using ⟨hi, hd⟩
        rw [KeepL] at h
        rw [e] at h
        exact h.1 hF
        all_goals (intros; simp_all)
    | succ j =>
      have h1 : KeepL s W W' i dd (k0 + 1) r := by
        cases f0 with
        | eq d v => exact h
        | gv G d v => exact h
        | w f | s1 d f | s2 d e f =>
          rw [KeepL] at h
          · cases e : (k0 == i || dd.contains k0) with
            | true => rw [e] at h; exact h
            | false => rw [e] at h; exact h.2
          all_goals (intros; simp_all)
      refine KeepL.get h1 j f (by simpa using hj) ?_ ?_ hF
      · rwa [show k0 + 1 + j = k0 + (j + 1) by omega]
      · rwa [show k0 + 1 + j = k0 + (j + 1) by omega]
theorem owe_keep {l : List FS} {dead : List (List Nat)} {i : Nat} {o : Oper} {s : Nat → Value} {W W' : World} {v : Value} (h : KeepL s W W' i (dead.getD i []) 0 l) (hF : LH l i (upd s o.dst v) W') : OweL l dead i o s W v W' := by
  refine ⟨hF, fun k hk hd hi hf => ?_⟩
  have h2 : LH l k = (l[k]).H := by simp [LH, FL, List.getD_eq_getElem?_getD, hk]
  rw [h2] at hf ⊢
  exact KeepL.get h k _ (by simp [hk]) (by rwa [Nat.zero_add]) (by rwa [Nat.zero_add]) hf
theorem owe_grow {l : List FS} {dead : List (List Nat)} {i : Nat} {o : Oper} {s : Nat → Value} {W W' : World} {v : Value} (hg : AllGrow (l.map FS.H)) (hb : Below W.heap.size W W') (h : LH l i (upd s o.dst v) W') : OweL l dead i o s W v W' := Owes.grownL hg hb h
def RunL (P : Program) (ops : Array Oper) (l : List FS) (pre dead : List (List Nat)) : Nat → List Oper → Prop
  | _, [] => True
  | i, o :: r => (∀ (a : Act) (W : World), KnowL (sl a) W l (pre.getD i []) → Runs P ops o a W (OweL l dead i o (sl a) W)) ∧ RunL P ops l pre dead (i + 1) r
theorem RunL.all {P : Program} {ops : Array Oper} {l : List FS} {pre dead : List (List Nat)} {N m : Nat} (hm : l.length = m) : ∀ {r : List Oper} {i : Nat}, RunL P ops l pre dead i r → AllRun P ops (LH l) m N pre dead i r
  | [], _, _ => trivial
  | _ :: _, _, h => ⟨fun a w _ hp => by subst hm; exact h.1 a w (KnowL.of hp), RunL.all hm h.2⟩
def InitD (s : Nat → Value) (w : World) : List Oper → List FS → Prop
  | _ :: r, _ :: l => InitD s w r l
  | [], l => InitL s w l
  | _ :: _, [] => True
theorem InitD.drop {s : Nat → Value} {w : World} : ∀ {r : List Oper} {l : List FS}, InitD s w r l → InitL s w (l.drop r.length)
  | _ :: r, _ :: l, h => InitD.drop (r := r) (l := l) h
  | [], l, h => h
  | _ :: _, [], _ => by simp [InitL]
theorem deedL {P : Program} {Q : Exit → Act → World → Prop} {l : List Oper} {id : Nat} {draw : Bool} {a0 : Act} {w0 : World} (Fs : List FS) (N : Nat) (pre dead : List (List Nat)) (fin : List Nat)
    (hm : P.follows .mixedOrders = true) (hn : a0.tmps.size = N) (hd : a0.defers = [])
    (hs : (deedOk l N pre dead (Fs.map FS.fp) fin && preOk pre (Fs.map FS.fp).length && decide (l.length ≤ (Fs.map FS.fp).length)) = true)
    (h0d : InitD (sl a0) w0 l Fs) (hg : GrowL Fs) (hop : AllGrow (Fs.map FS.H) → RunL P l.toArray Fs pre dead 0 l)
    (hQ : ∀ (a : Act) (w : World), a.tmps.size = N → a.defers = [] → KnowL (sl a) w Fs fin → Q .normal a w) :
    (Code.region id l.toArray draw).wp P Q a0 w0 := by
  simp only [Bool.and_eq_true, decide_eq_true_eq] at hs
  obtain ⟨⟨h1, h2⟩, h3⟩ := hs
  have h0 := h0d.drop
  have hlen : (Fs.map FS.fp).length = Fs.length := by simp
  have hlen2 : (Fs.map FS.H).length = Fs.length := by simp
  refine region_deed (ops := l.toArray) (LH Fs) N pre dead (Fs.map FS.fp) fin hm hn hd (by simpa using h1) (by simpa using h3) (fun i k hk => preOk_spec h2 i k hk) ?_ ?_ ?_ ?_
  · intro k h6 h7
    have hk : k < Fs.length := by omega
    have h8 : LH Fs k = (Fs[k]).H := by simp [LH, FL, List.getD_eq_getElem?_getD, hk]
    rw [h8]
    refine h0.all _ ?_
    have h9 : l.length ≤ k := by simpa using h6
    rw [List.mem_iff_getElem]
    exact ⟨k - l.length, by simp; omega, by rw [List.getElem_drop]; congr 1; omega⟩
  · intro k s s' w _ h6 h7
    exact (all_so Fs).get k s s' w h6 h7
  · intro i o ho a w hN hpre
    have h6 := (RunL.all (N := N) hlen.symm (hop hg.all)).get i o (by simpa using ho) a w hN
    rw [Nat.zero_add] at h6
    exact h6 (PreAll.of hpre)
  · intro a w hN hD _ hfin
    exact hQ a w hN hD (KnowL.of (PreAll.of hfin))
section
variable {P : Program} {ops : Array Oper} {l : List FS} {dead : List (List Nat)} {i : Nat} {o : Oper} {a : Act} {W W' : World} {v : Value}
/-- An operation that computes. -/
theorem rv (hg : o.guard = none) (hr : (execOp a.eval o).run P W = .ok (.value v) W) (hF : LH l i (upd (sl a) o.dst v) W) : Runs P ops o a W (OweL l dead i o (sl a) W) := runs_val (wanted_none hg) hr (Owes.same hF)
/-- The same under a guard that is a plain test. -/
theorem rb {j : Nat} {d : Tmp} {b c : Bool} (hg : o.guard = some (j, b)) (hd : (ops[j]?).bind (·.dst) = some d) (h : sl a d = .bool c) (hr : (c == b) = true → (execOp a.eval o).run P W = .ok (.value v) W)
    (hF : ∀ u, GV (c == b) u v → LH l i (upd (sl a) o.dst u) W) : Runs P ops o a W (OweL l dead i o (sl a) W) := by
  have hw := wanted_b hg hd h
  refine runs_guard hw (fun ht => ?_) (fun hf => Owes.same (hF _ (GV.off hf rfl)))
  rw [ht] at hw
  exact runs_val hw (hr ht) (Owes.same (hF _ (GV.on ht rfl)))
/-- The same under a guard that has a guard. -/
theorem rg {j : Nat} {d : Tmp} {b c G : Bool} (hg : o.guard = some (j, b)) (hd : (ops[j]?).bind (·.dst) = some d) (h : GV G (sl a d) (.bool c)) (hr : (G && (c == b)) = true → (execOp a.eval o).run P W = .ok (.value v) W)
    (hF : ∀ u, GV (G && (c == b)) u v → LH l i (upd (sl a) o.dst u) W) : Runs P ops o a W (OweL l dead i o (sl a) W) := by
  have hw := wanted_GV hg hd h
  refine runs_guard hw (fun ht => ?_) (fun hf => Owes.same (hF _ (GV.off hf rfl)))
  rw [ht] at hw
  exact runs_val hw (hr ht) (Owes.same (hF _ (GV.on ht rfl)))
/-- A call of a Go function that makes memory at most. -/
theorem rc {f : FuncId} {fn : Func} {as : Array Operand} {ts : Array TypeId} {args : Array Value} {R : Ending → World → Prop} (hgr : AllGrow (l.map FS.H)) (hg : o.guard = none) (hf : P.funcs[f]? = some fn) (hname : (fn.name == "runtime.NumGoroutine") = false) (hb : fn.body.isSome = true)
    (hop : o.op = .call { callee := .value (.func f), args := as, argTypes := ts }) (hargs : as.map a.eval = args) (hc : Calls P f args W R)
    (h : ∀ e W', R e W' → ∃ v, e = .returned v ∧ Below W.heap.size W W' ∧ LH l i (upd (sl a) o.dst v) W') : Runs P ops o a W (OweL l dead i o (sl a) W) :=
  runs_call hf hname hb args (wanted_none hg) hop hargs (hc.mono fun e W' hR => by
    obtain ⟨v, he, hbl, hF⟩ := h e W' hR
    exact ⟨v, he, Owes.grownL hgr hbl hF⟩)
theorem rcb {j : Nat} {d : Tmp} {b c : Bool} {f : FuncId} {fn : Func} {as : Array Operand} {ts : Array TypeId} {args : Array Value} {R : Ending → World → Prop} (hgr : AllGrow (l.map FS.H)) (hg : o.guard = some (j, b)) (hd : (ops[j]?).bind (·.dst) = some d) (hgv : sl a d = .bool c) (hf : P.funcs[f]? = some fn) (hname : (fn.name == "runtime.NumGoroutine") = false) (hb : fn.body.isSome = true)
    (hop : o.op = .call { callee := .value (.func f), args := as, argTypes := ts }) (hargs : (c == b) = true → as.map a.eval = args) (hc : (c == b) = true → Calls P f args W R)
    (h : (c == b) = true → ∀ e W', R e W' → e = .returned v ∧ Below W.heap.size W W') (hF : ∀ u W', GV (c == b) u v → LH l i (upd (sl a) o.dst u) W') : Runs P ops o a W (OweL l dead i o (sl a) W) := by
  have hw := wanted_b hg hd hgv
  refine runs_guard hw (fun ht => ?_) (fun hf => Owes.same (hF _ _ (GV.off hf rfl)))
  rw [ht] at hw
  exact runs_call hf hname hb args hw hop (hargs ht) ((hc ht).mono fun e W' hR => ⟨v, (h ht e W' hR).1, Owes.grownL hgr (h ht e W' hR).2 (hF _ _ (GV.on ht rfl))⟩)
theorem rcg {j : Nat} {d : Tmp} {b c G : Bool} {f : FuncId} {fn : Func} {as : Array Operand} {ts : Array TypeId} {args : Array Value} {R : Ending → World → Prop} (hgr : AllGrow (l.map FS.H)) (hg : o.guard = some (j, b)) (hd : (ops[j]?).bind (·.dst) = some d) (hgv : GV G (sl a d) (.bool c)) (hf : P.funcs[f]? = some fn) (hname : (fn.name == "runtime.NumGoroutine") = false) (hb : fn.body.isSome = true)
    (hop : o.op = .call { callee := .value (.func f), args := as, argTypes := ts }) (hargs : (G && (c == b)) = true → as.map a.eval = args) (hc : (G && (c == b)) = true → Calls P f args W R)
    (h : (G && (c == b)) = true → ∀ e W', R e W' → e = .returned v ∧ Below W.heap.size W W') (hF : ∀ u W', GV (G && (c == b)) u v → LH l i (upd (sl a) o.dst u) W') : Runs P ops o a W (OweL l dead i o (sl a) W) := by
  have hw := wanted_GV hg hd hgv
  refine runs_guard hw (fun ht => ?_) (fun hf => Owes.same (hF _ _ (GV.off hf rfl)))
  rw [ht] at hw
  exact runs_call hf hname hb args hw hop (hargs ht) ((hc ht).mono fun e W' hR => ⟨v, (h ht e W' hR).1, Owes.grownL hgr (h ht e W' hR).2 (hF _ _ (GV.on ht rfl))⟩)
end
/-! ### A block that the region makes -/
def NewB (n : Nat) (L : List Value) (T : TypeId) (x : Value) (W : World) : Prop := ∃ g : Nat, x = .pointer (some ⟨g, 0, none⟩) ∧ n ≤ g ∧ W.heap[g]? = some (.cells L.toArray T (0, 0))
theorem NewB.grow {n : Nat} {L : List Value} {T : TypeId} {x : Value} {W W' : World} (h : NewB n L T x W) (hb : Below W.heap.size W W') : NewB n L T x W' := by
  obtain ⟨g, h1, h2, h3⟩ := h
  exact ⟨g, h1, h2, blk_below h3 hb⟩
theorem NewB.other {n : Nat} {L : List Value} {T : TypeId} {x : Value} {W : World} {p : Addr} {u : Value} (h : NewB n L T x W) (hb : p.block < n) : NewB n L T x (W.setCell p u) := by
  obtain ⟨g, h1, h2, h3⟩ := h
  exact ⟨g, h1, h2, (Below.heap_setCell _ _ _ _ (by omega)).trans h3⟩
theorem NewB.otherS {n : Nat} {L : List Value} {T : TypeId} {x : Value} {W : World} {g off : Nat} {cs : List Value} (h : NewB n L T x W) (hb : g < n) : NewB n L T x (W.setCells g off cs) := by
  obtain ⟨g, h1, h2, h3⟩ := h
  exact ⟨g, h1, h2, (setCells_far _ _ _ (by omega)).trans h3⟩
theorem blk_setL {g : Nat} {T : TypeId} {w : World} {L : List Value} (h : w.heap[g]? = some (.cells L.toArray T (0, 0))) (i : Nat) (u : Value) : (w.setCell ⟨g, i, none⟩ u).heap[g]? = some (.cells (L.set i u).toArray T (0, 0)) := by
  have := blk_set h i u
  simpa using this
section
variable {P : Program} {ops : Array Oper} {l : List FS} {dead : List (List Nat)} {i : Nat} {o : Oper} {a : Act} {W : World} {v : Value}
theorem rbox {n : Nat} {L : List Value} {T : TypeId} (hgr : AllGrow (l.map FS.H)) (hg : o.guard = none) (hr : (execOp a.eval o).run P W = .ok (.value (.pointer (some ⟨W.heap.size, 0, none⟩))) (W.alloc (.cells L.toArray T))) (hN : n ≤ W.heap.size)
    (hF : ∀ u W', NewB n L T u W' → LH l i (upd (sl a) o.dst u) W') : Runs P ops o a W (OweL l dead i o (sl a) W) :=
  runs_val (wanted_none hg) hr (owe_grow hgr (below_alloc (Below.refl _ _) _) (hF _ _ ⟨_, rfl, hN, heap_alloc_new _ _⟩))
theorem rstore1 {t : TypeId} {x y : Operand} {g off : Nat} {T : TypeId} {L : List Value} (hg : o.guard = none) (ho : o.op = .store t x y) (hx : a.eval x = .pointer (some ⟨g, off, none⟩)) (hy : a.eval y = v) (h1 : v.oneCell' = true) (hs : (P.info? t).map (·.size) = some 1)
    (hb : W.heap[g]? = some (.cells L.toArray T (0, 0))) (hoff : decide (off < L.length) = true) (hF : LH l i (upd (sl a) o.dst undef) (W.setCell ⟨g, off, none⟩ v)) (hk : KeepL (sl a) W (W.setCell ⟨g, off, none⟩ v) i (dead.getD i []) 0 l) :
    Runs P ops o a W (OweL l dead i o (sl a) W) :=
  runs_skip (wanted_none hg) (x_store1 (u := L[off]'(of_decide_eq_true hoff)) ho hx hy h1 hs (by rw [blk_cell hb]; simp) (blk_frozen hb _)) (owe_keep hk hF)
theorem rstoreS {t : TypeId} {x y : Operand} {g off : Nat} {T : TypeId} {L cs : List Value} (hg : o.guard = none) (ho : o.op = .store t x y) (hx : a.eval x = .pointer (some ⟨g, off, none⟩)) (hy : a.eval y = .agg cs.toArray) (h1 : ∀ v ∈ cs, v.oneCell' = true) (hs : (P.info? t).map (·.size) = some cs.length)
    (hb : W.heap[g]? = some (.cells L.toArray T (0, 0))) (hoff : decide (off + cs.length ≤ L.length) = true) (hF : LH l i (upd (sl a) o.dst undef) (W.setCells g off cs)) (hk : KeepL (sl a) W (W.setCells g off cs) i (dead.getD i []) 0 l) :
    Runs P ops o a W (OweL l dead i o (sl a) W) :=
  runs_skip (wanted_none hg) (x_storeS ho hx hy h1 hs (fun j hj => by have := of_decide_eq_true hoff; rw [blk_cell hb]; simp; omega) (fun j _ => blk_frozen hb _)) (owe_keep hk hF)
end
/-! ### A region that stores into blocks S that were there before it -/
structure Kx (S : Nat → Prop) (w w' : World) : Prop where
  os : w'.os = w.os
  tape : w'.tape = w.tape
  output : w'.output = w.output
  size : w.heap.size ≤ w'.heap.size
  block : ∀ k, k < w.heap.size → ¬ S k → w'.heap[k]? = w.heap[k]?
section
variable {S : Nat → Prop} {w W W' : World} {g B : Nat}
theorem Kx.refl (S : Nat → Prop) (w : World) : Kx S w w := ⟨rfl, rfl, rfl, Nat.le_refl _, fun _ _ _ => rfl⟩
theorem Kx.drew (S : Nat → Prop) (w : World) : Kx S w { w with drawn := w.drawn + 1 } := ⟨rfl, rfl, rfl, Nat.le_refl _, fun _ _ _ => rfl⟩
theorem Kx.step (h : Kx S w W) (hb : Below W.heap.size W W') : Kx S w W' := ⟨hb.os.trans h.os, hb.tape.trans h.tape, hb.output.trans h.output, Nat.le_trans h.size hb.size, fun k hk hs => (hb.block k (Nat.lt_of_lt_of_le hk h.size)).trans (h.block k hk hs)⟩
theorem Kx.set (h : Kx S w W) (hg : S g) (i : Nat) (u : Value) : Kx S w (W.setCell ⟨g, i, none⟩ u) :=
  ⟨h.os, h.tape, h.output, by simpa [World.setCell] using h.size, fun k hk hs => (Below.heap_setCell _ _ _ _ (fun e => hs (by subst e; exact hg))).trans (h.block k hk hs)⟩
theorem Kx.sets (h : Kx S w W) (hg : S g) (i : Nat) (cs : List Value) : Kx S w (W.setCells g i cs) := by
  obtain ⟨h1, h2, h3, h4⟩ := setCells_same g cs i W
  exact ⟨h1.trans h.os, h2.trans h.tape, h3.trans h.output, by rw [h4]; exact h.size, fun k hk hs => (setCells_far cs i k (fun e => hs (e ▸ hg))).trans (h.block k hk hs)⟩
theorem Kx.grown (h : Kx S w W) {row : Option Nat} (hg : W.grownBy W' row) (hr : ∀ k, row = some k → S k ∨ w.heap.size ≤ k) : Kx S w W' :=
  ⟨hg.os.trans h.os, hg.tape.trans h.tape, hg.output.trans h.output, Nat.le_trans h.size hg.size, fun k hk hs => (hg.block k (Nat.lt_of_lt_of_le hk h.size) (fun e => by
    rcases hr k e.symm with h1 | h1
    · exact hs h1
    · omega)).trans (h.block k hk hs)⟩
theorem Kx.below {w0 : World} (h : Below B w0 w) (k : Kx S w W) (hB : B ≤ w.heap.size) (hS : ∀ i, S i → B ≤ i) : Below B w0 W :=
  h.trans ⟨k.os, k.tape, k.output, k.size, fun i hi => k.block i (by omega) (fun hs => by have := hS i hs; omega)⟩
theorem Kx.kept (k : Kx S w W) : Kept w W S := ⟨k.size, k.block⟩
theorem kx_of_below (h : Below w.heap.size w W) (S : Nat → Prop) : Kx S w W := ⟨h.os, h.tape, h.output, h.size, fun k hk _ => h.block k hk⟩
theorem kx_tr (h : Kx S w W) (k : Kx S W W') : Kx S w W' := ⟨k.os.trans h.os, k.tape.trans h.tape, k.output.trans h.output, Nat.le_trans h.size k.size, fun i hi hs => (k.block i (Nat.lt_of_lt_of_le hi h.size) hs).trans (h.block i hi hs)⟩
theorem kx_wide {T : Nat → Prop} (h : Kx S w W) (k : ∀ i, S i → T i) : Kx T w W := ⟨h.os, h.tape, h.output, h.size, fun i hi hs => h.block i hi (fun e => hs (k i e))⟩
theorem kx_grown {row : Option Nat} (h : w.grownBy W row) (k : ∀ i, some i = row → S i) : Kx S w W := (Kx.refl S w).grown h (fun i e => .inl (k i e.symm))
theorem kx_set (S : Nat → Prop) (h : S g) (i : Nat) (u : Value) : Kx S w (w.setCell ⟨g, i, none⟩ u) := (Kx.refl S w).set h i u
theorem kx_cells (S : Nat → Prop) (h : S g) {i : Nat} {cs : List Value} : Kx S w (w.setCells g i cs) := (Kx.refl S w).sets h i cs
theorem blk_kx {o : Obj} (h : w.heap[g]? = some o) (k : Kx S w W) (hs : ¬ S g) : W.heap[g]? = some o := (k.block g (blk_lt h) hs).trans h
theorem blk_neT {g1 g2 : Nat} {c1 c2 : Array Value} {T1 T2 : TypeId} {f1 f2 : Nat × Nat} (h1 : w.heap[g1]? = some (.cells c1 T1 f1)) (h2 : w.heap[g2]? = some (.cells c2 T2 f2)) (hT : decide (T1 = T2) = false) : g1 ≠ g2 := by
  rintro rfl
  rw [h1] at h2
  injection h2 with h2
  injection h2 with _ h2 _
  exact of_decide_eq_false hT h2
end
/-! ### Struct literals; results -/
def places (P : Program) (t : TypeId) : Option (List (Option (Nat × Nat))) := (P.underlying t).map fun d => match d with
  | .struct fs => fs.toList.map fun f => (P.info? f.type).map fun i => (f.offset, i.size)
  | _ => []
theorem bcons {ρ : Operand → Value} {x : Operand} {v : Value} {i : Nat} {ps : List (Nat × Operand)} {vs : List (Nat × Value)} (h : ρ x = v) (r : ps.map (fun p => (p.1, ρ p.2)) = vs) : ((i, x) :: ps).map (fun p => (p.1, ρ p.2)) = (i, v) :: vs := by simp [h, r]
theorem x_build {P : Program} {ρ : Operand → Value} {o : Oper} {w : World} {t : TypeId} {ps : List (Nat × Operand)} {vs : List (Nat × Value)} {fs : Array Field} {z : Value} {pl : List (Nat × Nat)} {L : List Value} (ho : o.op = .build t ps.toArray) (ht : P.underlying t = some (.struct fs)) (hz : (P.info? t).map (·.zero) = some (some z))
    (hpl0 : places P t = some (pl.map some)) (ha : ps.map (fun p => (p.1, ρ p.2)) = vs) (hf : Instr.fill (pl.toArray[·]?) z.cells vs = some L.toArray) :
    (execOp ρ o).run P w = .ok (.value (.agg L.toArray)) w := by
  obtain ⟨i, h1, h2⟩ := Option.map_eq_some_iff.1 hz
  have hpl : fs.toList.map (fun f => (P.info? f.type).map fun i => (f.offset, i.size)) = pl.map some := by simpa [places, ht] using hpl0
  have hm : ∀ (l : List Field) (pl : List (Nat × Nat)), l.map (fun f => (P.info? f.type).map fun i => (f.offset, i.size)) = pl.map some → (l.mapM (fun f => (do pure (f.offset, ← sizeOf f.type) : Sem (Nat × Nat)))).run P w = .ok pl w := by
    intro l
    induction l with
    | nil => intro pl h; cases pl <;> simp_all
    | cons f r ih =>
      intro pl h
      cases pl with
      | nil => simp at h
      | cons p pl =>
        simp only [List.map_cons, List.cons.injEq] at h
        obtain ⟨j, h3, h4⟩ := Option.map_eq_some_iff.1 h.1
        have hs : (sizeOf f.type).run P w = .ok j.size w := by simp [sizeOf, typeInfo, h3]
        rw [List.mapM_cons]
        have ih' := ih pl h.2
        simp at ih'
        simp [hs, h4, ih']
  have hm2 : (fs.mapM (fun f => (do pure (f.offset, ← sizeOf f.type) : Sem (Nat × Nat)))).run P w = .ok pl.toArray w := by
    rw [← Array.toArray_toList (xs := fs), List.mapM_toArray]
    have h3 := hm fs.toList pl hpl
    simp at h3
    simp [h3]
  unfold execOp
  simp only [ho]
  simp only [List.map_toArray, ha]
  simp at hm2
  have hf' : Instr.fill (fun x => pl[x]?) z.cells vs = some L.toArray := by simpa using hf
  simp [Instr.build, run_underlying ht, zeroValue, typeInfo, h1, h2, hm2, hf']
theorem vtmp {P : Program} {a : Act} {w : World} {u : Tmp} {v : Value} {rs : List ResultVar} {vs : List Value} (h : sl a u = v) (r : Vals P a.tmps w rs vs) : Vals P a.tmps w (.tmp u :: rs) (v :: vs) := by
  have : a.tmps.getD u undef = v := h
  exact this ▸ .tmp r
theorem vcell {P : Program} {a : Act} {w : World} {p : Tmp} {ty t : TypeId} {d : TypeDesc} {g : Nat} {L : List Value} {rs : List ResultVar} {vs : List Value} (h : sl a p = .pointer (some ⟨g, 0, none⟩)) (hg : w.heap[g]? = some (.cells L.toArray t (0, 0))) (hu : P.underlying ty = some d) (hd : (match d with | .struct _ | .array _ _ => true | _ => false) = true)
    (hi : (P.info? ty).map (·.size) = some L.length) (r : Vals P a.tmps w rs vs) : Vals P a.tmps w (.cell p ty :: rs) (.agg L.toArray :: vs) :=
  .cell g t L.toArray (0, 0) d h hg hu hd (by simpa using hi) r
theorem args0 {ρ : Operand → Value} : (#[] : Array Operand).map ρ = #[] := by simp
/-! ### A function's frame -/
def ParamsAre (s : Nat → Value) : Nat → List Value → Prop
  | _, [] => True
  | k, v :: r => s k = v ∧ ParamsAre s (k + 1) r
theorem params_lit (L M : List Value) : ∀ (r : List Value) (k : Nat), (∀ j, j < r.length → (L ++ M)[k + j]? = r[j]?) → ParamsAre (fun t => (L ++ M).getD t undef) k r
  | [], _, _ => trivial
  | v :: r, k, h => ⟨by have := h 0 (by simp); simp at this; simp [List.getD_eq_getElem?_getD, this], params_lit L M r (k + 1) fun j hj => by have := h (j + 1) (by simp; omega); rwa [show k + (j + 1) = k + 1 + j by omega, List.getElem?_cons_succ] at this⟩
theorem enter_ {P : Program} {Q : Exit → Act → World → Prop} {c : Code} {l : List Value} {n N : Nat} {w : World} (hN : l.length + (n - l.length) = N) (h : ∀ a : Act, a.tmps.size = N → a.defers = [] → ParamsAre (sl a) 0 l → c.wp P Q a w) :
    c.wp P Q { tmps := l.toArray ++ Array.replicate (n - l.toArray.size) undef, defers := [] } w := by
  refine h _ (by simpa using hN) rfl ?_
  have h1 := params_lit l (List.replicate (n - l.length) undef) l 0 (fun j hj => by rw [Nat.zero_add, List.getElem?_append_left hj])
  have e : sl { tmps := l.toArray ++ Array.replicate (n - l.toArray.size) undef, defers := [] } = fun t => (l ++ List.replicate (n - l.length) undef).getD t undef := by
    funext t
    simp [sl, List.getD_eq_getElem?_getD, Array.getElem?_append, List.getElem?_append, Array.getElem?_replicate, List.getElem?_replicate]
  rw [e]
  exact h1
theorem then_ret {A : Act → World → Prop} {Q : Exit → Act → World → Prop} {a : Act} {w : World} (h : Q .ret a w) : Exit.then A Q .ret a w := h
theorem then_exit {i : Nat} {A : Act → World → Prop} {Q : Exit → Act → World → Prop} {a : Act} {w : World} (h : Q (.exit i) a w) : Exit.then A Q (.exit i) a w := h
theorem blk_ret {id : Nat} {Q : Exit → Act → World → Prop} {a : Act} {w : World} (h : Q .ret a w) : Exit.inBlock id Q .ret a w := h
theorem bodyPost_norm {P : Program} {fn : Func} {R : Ending → World → Prop} {a : Act} {w : World} (h : bodyPost P fn R .ret a w) : bodyPost P fn R .normal a w := h
theorem at_exit {id : Nat} {Q : Exit → Act → World → Prop} {a : Act} {w : World} (h : Q .normal a w) : Exit.inBlock id Q (.exit id) a w := by simpa [Exit.inBlock] using h
theorem past_exit {i j : Nat} {Q : Exit → Act → World → Prop} {a : Act} {w : World} (hne : i ≠ j) (h : Q (.exit i) a w) : Exit.inBlock j Q (.exit i) a w := by simpa [Exit.inBlock, hne] using h
/-- A loop, its invariant counted down. -/
theorem wp_loopN {P : Program} {Q : Exit → Act → World → Prop} {c : Code} {a : Act} {w : World} (I : Nat → Act → World → Prop) (n : Nat) (h0 : I n a w)
    (round : ∀ n a w, I n a w → c.wp P (Exit.then (fun a' w' => ∃ m, m < n ∧ I m a' w') Q) a w) : (Code.loop c).wp P Q a w := by
  classical
  have hmin : ∀ a w, (∃ n, I n a w) → ∃ n, I n a w ∧ ∀ m, I m a w → n ≤ m := by
    intro a w ⟨n, hn⟩
    induction n using Nat.strongRecOn with
    | _ n ih =>
      by_cases h : ∃ m, m < n ∧ I m a w
      · obtain ⟨m, hm, hI⟩ := h
        exact ih m hm hI
      · exact ⟨n, hn, fun m hm => by
          rcases Nat.lt_or_ge m n with hl | hl
          · exact absurd ⟨m, hl, hm⟩ h
          · exact hl⟩
  refine wp_loop (fun a w => ∃ n, I n a w) (fun a w => if h : ∃ n, I n a w then (hmin a w h).choose else 0) ⟨n, h0⟩ ?_
  intro a w hI
  have hc := (hmin a w hI).choose_spec
  refine Code.wp_mono (fun e a' w' q => ?_) (round _ a w hc.1)
  cases e with
  | normal =>
    obtain ⟨m, hm, hI'⟩ := q
    refine ⟨⟨m, hI'⟩, ?_⟩
    have h1 : ∃ n, I n a' w' := ⟨m, hI'⟩
    simp only [dif_pos hI, dif_pos h1]
    exact Nat.lt_of_le_of_lt ((hmin a' w' h1).choose_spec.2 m hI') hm
  | _ => exact q
end Go.Proofs.Ytideafkiaipnoaa.Deed
