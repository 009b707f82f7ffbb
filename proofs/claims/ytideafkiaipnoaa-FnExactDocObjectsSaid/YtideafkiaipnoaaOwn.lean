/- Rows of the call's own that grow. -/
import Derived.Test.YtideafkiaipnoaaRow
namespace Go.Proofs.Ytideafkiaipnoaa.Q
open Go Go.RowKit Go.Proofs.YtideafkiaipnoaaW.PrintWords Go.Proofs.Ytideafkiaipnoaa.Deed
def R1 (x : Int) (cs : List Value) : Prop := cs = [.int .i64 x]
/-- Nothing of v lies below N. -/
def Above (N : Nat) (v : Value) : Prop := ∀ k, v.ownBlock = some k → N ≤ k
theorem Above.nil (N : Nat) : Above N (.slice none 0 0) := fun k hk => by simp [Value.ownBlock] at hk
theorem Above.le {N M : Nat} {v : Value} (h : Above N v) (hm : M ≤ N) : Above M v := fun k hk => Nat.le_trans hm (h k hk)
section
variable {α : Type} {R : α → List Value → Prop} {e : TypeId} {size : Nat} {w W W' : World} {v : Value} {ps : List α} {S : Nat → Prop}
theorem own_kx (h : OwnRow R e size w 0 v ps) (k : Kx S w W) (hs : ∀ k, v.ownBlock = some k → ¬ S k) : OwnRow R e size W 0 v ps := by
  obtain ⟨inner, ho, hr⟩ := h
  exact ⟨inner, own_move ho (fun k' hk => k.block k' (own_lt ho k' hk) (hs k' hk)), hr⟩
theorem own_blk (h : OwnRow R e size w 0 v ps) {g : Nat} {cells : Array Value} {t : TypeId} (hb : w.heap[g]? = some (.cells cells t (0, 0))) (ht : decide (e = t) = false) : ¬ some g = v.ownBlock := h.ne_block hb (of_decide_eq_false ht)
end
/-- A slice of one element, made in the region. -/
def NewL (L : List Value) (T : TypeId) (x : Value) (W : World) : Prop := ∃ g : Nat, x = .slice (some ⟨g, 0, none⟩) 1 1 ∧ W.heap[g]? = some (.cells L.toArray T (0, 0))
theorem NewL.grow {L : List Value} {T : TypeId} {x : Value} {W W' : World} (h : NewL L T x W) (hb : Below W.heap.size W W') : NewL L T x W' := by
  obtain ⟨g, h1, h3⟩ := h
  exact ⟨g, h1, blk_below h3 hb⟩
theorem x_build0 {P : Program} {ρ : Operand → Value} {o : Oper} {w : World} {t e : TypeId} {i : TypeInfo} (ho : o.op = .buildSlice t 0 #[]) (ht : P.underlying t = some (.slice e)) (hi : P.info? e = some i) :
    (execOp ρ o).run P w = .ok (.value (.slice (some ⟨w.heap.size, 0, none⟩) 0 0)) (w.alloc (.cells #[] e)) := by
  unfold execOp
  simp [ho, Instr.buildSlice, run_underlying ht, sizeOf, typeInfo, hi, newRow, Instr.fill]
  congr 1
  simp [Array.range_zero']
section
variable {P : Program} {ops : Array Oper} {l : List FS} {dead : List (List Nat)} {k : Nat} {o : Oper} {a : Act} {W : World} {x y : Operand} {t e : TypeId} {v : Value}
theorem rbuild1 {z u : Value} {n : Nat} {L : List Value} (hgr : AllGrow (l.map FS.H)) (hg : o.guard = none) (ho : o.op = .buildSlice t 1 #[(0, x)]) (ht : P.underlying t = some (.slice e)) (hi : (P.info? e).map (fun i => (i.zero, i.size)) = some (some z, n)) (hn : 0 < n) (hn2 : n ≤ 16777216) (h : a.eval x = u) (hv : u.cells.size = n) (hL : u.cells = L.toArray)
    (hF : ∀ y W', NewL L e y W' → LH l k (upd (sl a) o.dst y) W') : Runs P ops o a W (OweL l dead k o (sl a) W) :=
  runs_val (wanted_none hg) (x_build1 ho ht hi hn hn2 h hv) (owe_grow hgr (below_alloc (Below.refl _ _) _) (hF _ _ ⟨_, rfl, by rw [← hL]; exact heap_alloc_new _ _⟩))
theorem rbuild0 {α : Type} {R : α → List Value → Prop} {size N : Nat} (hgr : AllGrow (l.map FS.H)) (hg : o.guard = none) (ho : o.op = .buildSlice t 0 #[]) (ht : P.underlying t = some (.slice e)) (hi : (P.info? e).map (·.size) = some size) (hN : N ≤ W.heap.size)
    (hF : ∀ y W', OwnRow R e size W' 0 y [] → Above N y → LH l k (upd (sl a) o.dst y) W') : Runs P ops o a W (OweL l dead k o (sl a) W) := by
  obtain ⟨j, h1, h2⟩ := Option.map_eq_some_iff.1 hi
  refine runs_val (wanted_none hg) (x_build0 ho ht h1) (owe_grow hgr (below_alloc (Below.refl _ _) _) (hF _ _ ?_ ?_))
  · have := OwnRow.lit (R := R) (e := e) (size := size) (ps := []) W 0 (inner := []) (Reps.none _ _) (Nat.zero_le _) (by simp)
    simpa using this
  · intro k hk
    simp [Value.ownBlock] at hk
    omega
theorem rappend {α : Type} {R : α → List Value → Prop} {z : Value} {size bytes : Nat} {ps : List α} {p : α} {cs : List Value} {N : Nat} {w : World} (hg : o.guard = none) (ho : o.op = .call { callee := .builtin .append, args := #[x, y], argTypes := #[t, t] }) (ht : P.underlying t = some (.slice e)) (hinfo : (P.info? e).map (fun i => (i.zero, i.size, i.bytes)) = some (some z, size, bytes)) (hz : z.cells.size = size) (hs0 : 0 < size) (hb0 : 0 < bytes)
    (hx : a.eval x = v) (hy : NewL cs e (a.eval y) W) (hp : R p cs) (hcs : cs.length = size) (h1 : ∀ u ∈ cs, u.oneCell' = true) (HO : OwnRow R e size W 0 v ps) (hl : (ps.length + 1) * bytes ≤ 140737488355328) (hv : Above N v) (hN : N ≤ W.heap.size) (hk0 : Kx (fun k => some k = v.ownBlock) w W)
    (h : ∀ v1 W', OwnRow R e size W' 0 v1 (ps ++ [p]) → Above N v1 → Kx (fun k => some k = v.ownBlock) w W' → W.grownBy W' v.ownBlock → OweL l dead k o (sl a) W v1 W') : Runs P ops o a W (OweL l dead k o (sl a) W) := by
  obtain ⟨gb, e1, hb⟩ := hy
  refine runs_append (wanted_none hg) ho ht hinfo hz hs0 hb0 hx e1 hb hp hcs h1 HO hl fun v1 w1 h2 h3 h4 => ?_
  refine h v1 w1 h2 ?_ (hk0.grown h3 fun k hk => .inl hk.symm) h3
  intro k hk
  rcases h4 with h4 | h4
  · exact hv k (h4 ▸ hk)
  · rw [h4] at hk
    injection hk with hk
    omega
end
/-! ### Arrays of integers -/
theorem x_loadA {P : Program} {ρ : Operand → Value} {o : Oper} {w : World} {x : Operand} {t e : TypeId} {n : Nat} {ad : Addr} (ho : o.op = .load t x) (h : ρ x = .pointer (some ad)) (ht : P.underlying t = some (.array n e)) (cs : List Value) (hi : (P.info? t).map (·.size) = some cs.length) (hc : ∀ (j : Nat) (u : Value), cs[j]? = some u → w.cell? (ad.add j) = some u) :
    (execOp ρ o).run P w = .ok (.value (.agg cs.toArray)) w := by
  have hr := run_loadCells_list (P := P) (w := w) ad cs hc
  obtain ⟨i, hi1, hi2⟩ := Option.map_eq_some_iff.1 hi
  unfold execOp
  simp [ho, h, Instr.loadAt, Instr.sureAddr, loadVar, isAgg, run_underlying ht, sizeOf, typeInfo, hi1, hi2, hr]
theorem x_indexA {P : Program} {ρ : Operand → Value} {o : Oper} {w : World} {x y : Operand} {t e : TypeId} {n : Nat} {k : IntKind} {i : Int} {xs : List Int} (ho : o.op = .index t x y) (hx : ρ x = .agg (xs.map (Value.int .i64)).toArray) (hy : ρ y = .int k i) (ht : P.underlying t = some (.array n e)) (hi : (P.info? e).map (·.size) = some 1) {kk : IntKind} (hd : P.underlying e = some (.int kk)) (hn : xs.length = n) (h0 : 0 ≤ i) (h1 : i < n) :
    (execOp ρ o).run P w = .ok (.value (.int .i64 (gi xs i))) w := by
  obtain ⟨j, hi1, hi2⟩ := Option.map_eq_some_iff.1 hi
  have hg := gi_of h0 (by omega : i < xs.length)
  have hp : (part e (xs.map (Value.int .i64)).toArray i.toNat).run P w = .ok (.int .i64 (gi xs i)) w := by
    simp [part, isAgg, run_underlying hd, hg]
  unfold execOp
  simp [ho, hx, hy, Instr.index, asIntOf, run_underlying ht, sizeOf, typeInfo, hi1, hi2, h0, h1, hp]
end Go.Proofs.Ytideafkiaipnoaa.Q
