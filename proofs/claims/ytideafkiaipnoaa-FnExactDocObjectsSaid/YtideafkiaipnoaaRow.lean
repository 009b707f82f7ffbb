/- Rows of integers and of operations, as they are read; what a list says at a place. -/
import Derived.Test.YtideafkiaipnoaaTy
import Derived.Test.YtideafkiaipnoaaWEqStruct
namespace Go.Proofs.Ytideafkiaipnoaa.Q
open Go Go.RowKit Go.Proofs.YtideafkiaipnoaaW.PrintWords Go.Proofs.Ytideafkiaipnoaa.Deed
/-- An operation of the log. -/
structure Op where
  actor : Int
  seq : Int
  time : Int
  deps : List Int
  kind : Int
  obj : Int
  num : Int
  undo : Int
  att : Int
  ata : Int
  key : ByteArray
  text : ByteArray
instance : Inhabited Op := ⟨⟨0, 0, 0, [], 0, 0, 0, 0, 0, 0, ⟨#[]⟩, ⟨#[]⟩⟩⟩
/-- Its cells; its vector's slice is at A, of capacity c. -/
abbrev opc (o : Op) (A : Option Addr) (c : Nat) : List Value := [.int .i64 o.actor, .int .i64 o.seq, .int .i64 o.time, .slice A o.deps.length c, .int .i64 o.kind, .int .i64 o.obj, .int .i64 o.num, .int .i64 o.undo, .int .i64 o.att, .int .i64 o.ata, .string o.key, .string o.text]
def adr (A : Option Addr) : Addr := A.getD ⟨0, 0, none⟩
/-- The integers xs lie at A. -/
def RI (w : World) (A : Option Addr) (xs : List Int) : Prop := ∀ i x, xs[i]? = some x → A = some (adr A) ∧ w.cell? ((adr A).add i) = some (.int .i64 x)
def gi (xs : List Int) (i : Int) : Int := xs.getD i.toNat 0
theorem gi_of {xs : List Int} {i : Int} (h0 : 0 ≤ i) (h1 : i < xs.length) : xs[i.toNat]? = some (gi xs i) := by
  have : i.toNat < xs.length := by omega
  simp [gi, List.getD_eq_getElem?_getD, this]
theorem cell_below {w W : World} {p : Addr} {u : Value} (h : w.cell? p = some u) (hb : Below w.heap.size w W) : W.cell? p = some u := by
  rw [hb.cell ?_]
  · exact h
  · rcases Nat.lt_or_ge p.block w.heap.size with hl | hl
    · exact hl
    · rw [World.cell?, Array.getElem?_eq_none hl] at h
      cases h
theorem RI.below {w W : World} {A : Option Addr} {xs : List Int} (h : RI w A xs) (hb : Below w.heap.size w W) : RI W A xs := fun i x hx => ⟨(h i x hx).1, cell_below (h i x hx).2 hb⟩
theorem RI.ad {w : World} {A : Option Addr} {xs : List Int} (h : RI w A xs) (i : Int) (h0 : 0 ≤ i) (h1 : i < xs.length) : A = some (adr A) := (h _ _ (gi_of h0 h1)).1
theorem RI.at_ {w W : World} {A : Option Addr} {xs : List Int} (h : RI w A xs) (hb : Below w.heap.size w W) {i : Int} (h0 : 0 ≤ i) (h1 : i < xs.length) : W.cell? ((adr A).add (i.toNat * 1)) = some (.int .i64 (gi xs i)) := by
  rw [Nat.mul_one]
  exact cell_below (h _ _ (gi_of h0 h1)).2 hb
theorem RI.nil (w : World) (A : Option Addr) : RI w A [] := fun i x h => by simp at h
/-- The operations os lie at A; the vector of the i-th at D i, of capacity C i. -/
def RO (w : World) (A : Option Addr) (os : List Op) (D : Nat → Option Addr) (C : Nat → Nat) : Prop :=
  ∀ i o, os[i]? = some o → A = some (adr A) ∧ (∀ (j : Nat) (u : Value), (opc o (D i) (C i))[j]? = some u → w.cell? ((adr A).add (i * 12 + j)) = some u) ∧ RI w (D i) o.deps ∧ o.deps.length ≤ C i
def go_ (os : List Op) (i : Int) : Op := os.getD i.toNat default
theorem go_of {os : List Op} {i : Int} (h0 : 0 ≤ i) (h1 : i < os.length) : os[i.toNat]? = some (go_ os i) := by
  have : i.toNat < os.length := by omega
  simp [go_, List.getD_eq_getElem?_getD, this]
section
variable {w W : World} {A : Option Addr} {os : List Op} {D : Nat → Option Addr} {C : Nat → Nat}
theorem RO.below (h : RO w A os D C) (hb : Below w.heap.size w W) : RO W A os D C := fun i o ho => ⟨(h i o ho).1, fun j u hu => cell_below ((h i o ho).2.1 j u hu) hb, (h i o ho).2.2.1.below hb, (h i o ho).2.2.2⟩
theorem RO.ad (h : RO w A os D C) (i : Int) (h0 : 0 ≤ i) (h1 : i < os.length) : A = some (adr A) := (h _ _ (go_of h0 h1)).1
theorem RO.deps (h : RO w A os D C) {i : Int} (h0 : 0 ≤ i) (h1 : i < os.length) : RI w (D i.toNat) (go_ os i).deps := (h _ _ (go_of h0 h1)).2.2.1
theorem RO.cap (h : RO w A os D C) {i : Int} (h0 : 0 ≤ i) (h1 : i < os.length) : (go_ os i).deps.length ≤ C i.toNat := (h _ _ (go_of h0 h1)).2.2.2
theorem add_add (ad : Addr) (i j : Nat) : (ad.add i).add j = ad.add (i + j) := by
  unfold Addr.add
  by_cases hi : i = 0 <;> by_cases hj : j = 0 <;> simp_all [Nat.add_assoc]
theorem RO.cell (h : RO w A os D C) (hb : Below w.heap.size w W) {i : Int} (h0 : 0 ≤ i) (h1 : i < os.length) {j : Nat} {u : Value} (hu : (opc (go_ os i) (D i.toNat) (C i.toNat))[j]? = some u) : W.cell? (((adr A).add (i.toNat * 12)).add j) = some u := by
  rw [add_add]
  exact cell_below ((h _ _ (go_of h0 h1)).2.1 j u hu) hb
theorem RO.cells (h : RO w A os D C) (hb : Below w.heap.size w W) {i : Int} (h0 : 0 ≤ i) (h1 : i < os.length) : ∀ (j : Nat) (u : Value), (opc (go_ os i) (D i.toNat) (C i.toNat))[j]? = some u → W.cell? (((adr A).add (i.toNat * 12)).add j) = some u := fun _ _ hu => h.cell hb h0 h1 hu
theorem RO.sub (h : RO w A os D C) (hb : Below w.heap.size w W) {i : Int} (h0 : 0 ≤ i) (h1 : i < os.length) (off : Nat) {cs : List Value} (hc : ((opc (go_ os i) (D i.toNat) (C i.toNat)).drop off).take cs.length = cs) : ∀ (j : Nat) (u : Value), cs[j]? = some u → W.cell? ((((adr A).add (i.toNat * 12)).add off).add j) = some u := by
  intro j u hu
  have hj := (List.getElem?_eq_some_iff.1 hu).1
  rw [← hc, List.getElem?_take_of_lt hj, List.getElem?_drop] at hu
  rw [add_add]
  exact h.cell hb h0 h1 hu
theorem RO.cell0 (h : RO w A os D C) (hb : Below w.heap.size w W) {i : Int} (h0 : 0 ≤ i) (h1 : i < os.length) : W.cell? ((adr A).add (i.toNat * 12)) = some (.int .i64 (go_ os i).actor) := cell_below ((h _ _ (go_of h0 h1)).2.1 0 _ rfl) hb
end
/-- A slot's slice that holds something: where. -/
theorem x_index_at {P : Program} {ρ : Operand → Value} {o : Oper} {w : World} {x y : Operand} {t : TypeId} {k : IntKind} {a : Int} {A : Option Addr} {n c m : Nat} {e : TypeId} (ho : o.op = .indexAddr t x y) (h : ρ x = .slice A n c) (hy : ρ y = .int k a) (ht : P.underlying t = some (.slice e)) (hi : (P.info? e).map (·.size) = some m)
    (h0 : 0 ≤ a) (h1 : a < n) (hA : A = some (adr A)) : (execOp ρ o).run P w = .ok (.value (.pointer (some ((adr A).add (a.toNat * m))))) w := by
  rw [hA] at h
  exact x_index_slice ho h hy ht hi h0 h1 rfl
/-! ### Blocks of integers -/
def si (xs : List Int) (i v : Int) : List Int := xs.set i.toNat v
theorem si_length (xs : List Int) (i v : Int) : (si xs i v).length = xs.length := by simp [si]
theorem gi_si {xs : List Int} {i j v : Int} (h0 : 0 ≤ i) (h1 : i < xs.length) (hj : 0 ≤ j) : gi (si xs i v) j = if j = i then v else gi xs j := by
  have hl : i.toNat < xs.length := by omega
  unfold gi si
  by_cases e : j = i
  · subst e
    simp [List.getD_eq_getElem?_getD, hl]
  · have : i.toNat ≠ j.toNat := by omega
    simp [List.getD_eq_getElem?_getD, List.getElem?_set_ne this, e]
def IB (w : World) (g : Nat) (xs : List Int) (T : TypeId) : Prop := w.heap[g]? = some (.cells (xs.map (Value.int .i64)).toArray T (0, 0))
theorem ptr1 (g n : Nat) : Value.pointer (some ((⟨g, 0, none⟩ : Addr).add (n * 1))) = .pointer (some ⟨g, n, none⟩) := by rw [add_mk]; simp
section
variable {w W : World} {g : Nat} {xs : List Int} {T : TypeId}
theorem IB.below (h : IB w g xs T) (hb : Below w.heap.size w W) : IB W g xs T := blk_below h hb
theorem IB.at_ (h : IB w g xs T) {i : Int} (h0 : 0 ≤ i) (h1 : i < xs.length) : w.cell? ⟨g, i.toNat, none⟩ = some (.int .i64 (gi xs i)) := by
  rw [blk_cell h]
  simp [gi_of h0 h1]
theorem IB.set (h : IB w g xs T) (i v : Int) : IB (w.setCell ⟨g, i.toNat, none⟩ (.int .i64 v)) g (si xs i v) T := by
  have := blk_setL h i.toNat (.int .i64 v)
  unfold IB si
  rw [List.map_set]
  exact this
theorem IB.RI (h : IB w g xs T) : RI w (some ⟨g, 0, none⟩) xs := fun i x hx => ⟨rfl, by
  show w.cell? ((⟨g, 0, none⟩ : Addr).add i) = _
  rw [add_mk, Nat.zero_add, blk_cell h]
  simp [hx]⟩
theorem rstoreI {P : Program} {ops : Array Oper} {l : List FS} {dead : List (List Nat)} {k : Nat} {o : Oper} {a : Act} {t : TypeId} {x y : Operand} {i v : Int} (hg : o.guard = none) (ho : o.op = .store t x y) (hx : a.eval x = .pointer (some ⟨g, i.toNat, none⟩)) (hy : a.eval y = .int .i64 v) (hs : (P.info? t).map (·.size) = some 1)
    (hb : IB W g xs T) (h0 : 0 ≤ i) (h1 : i < xs.length) (hF : LH l k (upd (sl a) o.dst undef) (W.setCell ⟨g, i.toNat, none⟩ (.int .i64 v))) (hk : KeepL (sl a) W (W.setCell ⟨g, i.toNat, none⟩ (.int .i64 v)) k (dead.getD k []) 0 l) :
    Runs P ops o a W (OweL l dead k o (sl a) W) :=
  runs_skip (wanted_none hg) (x_store1 (u := .int .i64 (gi xs i)) ho hx hy rfl hs (hb.at_ h0 h1) (blk_frozen hb _)) (owe_keep hk hF)
end
/-- A slice made in the region: of n integers xs. -/
def NewS (N n : Nat) (xs : List Int) (T : TypeId) (x : Value) (W : World) : Prop := ∃ g : Nat, x = .slice (some ⟨g, 0, none⟩) n n ∧ N ≤ g ∧ IB W g xs T
theorem NewS.grow {N n : Nat} {xs : List Int} {T : TypeId} {x : Value} {W W' : World} (h : NewS N n xs T x W) (hb : Below W.heap.size W W') : NewS N n xs T x W' := by
  obtain ⟨g, h1, h2, h3⟩ := h
  exact ⟨g, h1, h2, h3.below hb⟩
theorem NewS.other {N n : Nat} {xs : List Int} {T : TypeId} {x : Value} {W : World} {p : Addr} {u : Value} (h : NewS N n xs T x W) (hb : p.block < N) : NewS N n xs T x (W.setCell p u) := by
  obtain ⟨g, h1, h2, h3⟩ := h
  exact ⟨g, h1, h2, (Below.heap_setCell _ _ _ _ (by omega)).trans h3⟩
theorem NewS.otherS {N n : Nat} {xs : List Int} {T : TypeId} {x : Value} {W : World} {g off : Nat} {cs : List Value} (h : NewS N n xs T x W) (hb : g < N) : NewS N n xs T x (W.setCells g off cs) := by
  obtain ⟨g, h1, h2, h3⟩ := h
  exact ⟨g, h1, h2, (setCells_far _ _ _ (by omega)).trans h3⟩
theorem made_int (n : Nat) : madeCells #[.int .i64 0] n = ((List.replicate n (0 : Int)).map (Value.int .i64)).toArray := by
  apply Array.ext'
  unfold madeCells
  simp only [Array.toList_map, Array.toList_range]
  apply List.ext_getElem
  · simp
  · intro i h1 h2
    simp [Nat.mod_one]
theorem x_makeI {P : Program} {ρ : Operand → Value} {o : Oper} {w : World} {x y : Operand} {t e : TypeId} {a : Int} {n : Nat} (ho : o.op = .makeSlice t x y) (hx : ρ x = .int .i64 a) (hy : ρ y = .int .i64 a) (ht : P.underlying t = some (.slice e)) (hi : (P.info? e).map (fun i => (i.zero, i.size, i.bytes)) = some (some (.int .i64 0), 1, 8)) (ha : a = (n : Int)) (hn : n ≤ 1048576) :
    (execOp ρ o).run P w = .ok (.value (.slice (some ⟨w.heap.size, 0, none⟩) n n)) (w.alloc (.cells ((List.replicate n (0 : Int)).map (Value.int .i64)).toArray e)) := by
  obtain ⟨i, h1, h2⟩ := Option.map_eq_some_iff.1 hi
  simp only [Prod.mk.injEq] at h2
  obtain ⟨h2, h3, h4⟩ := h2
  subst ha
  have hr := run_makeSlice (P := P) w t e i _ ht h1 h2 .i64 .i64 n n (by omega) (by omega) (by rw [h3]; simp; omega) (by rw [h4]; omega) (by omega)
  rw [h3] at hr
  simp only [Int.toNat_natCast, Nat.mul_one, Value.cells, made_int] at hr
  unfold execOp
  simp [ho, hx, hy, hr]
theorem rmakeI {P : Program} {ops : Array Oper} {l : List FS} {dead : List (List Nat)} {k : Nat} {o : Oper} {a : Act} {W : World} {N n : Nat} {xs : List Int} {T : TypeId} (hgr : AllGrow (l.map FS.H)) (hg : o.guard = none) (hr : (execOp a.eval o).run P W = .ok (.value (.slice (some ⟨W.heap.size, 0, none⟩) n n)) (W.alloc (.cells (xs.map (Value.int .i64)).toArray T))) (hN : N ≤ W.heap.size)
    (hF : ∀ u W', NewS N n xs T u W' → LH l k (upd (sl a) o.dst u) W') : Runs P ops o a W (OweL l dead k o (sl a) W) :=
  runs_val (wanted_none hg) hr (owe_grow hgr (below_alloc (Below.refl _ _) _) (hF _ _ ⟨_, rfl, hN, heap_alloc_new _ _⟩))
/-! ### Stamps compared -/
theorem eqA65 (d : Nat) (w : World) (x0 y0 : Int) (x1 y1 : Int) :
    (Op.equalIn (d + 2) 65 (.agg #[.int .i64 x0, .int .i64 x1]) (.agg #[.int .i64 y0, .int .i64 y1])).run Try.prog w = .ok (x0 == y0 && (x1 == y1)) w := by
  refine eqA_of Try.underlying65 (by kernel_rfl) ?_
  refine eqf_cons (by rfl) (by go_simp; rfl) (by go_simp; rfl) (by go_simp) ?_
  exact eqf_last (by rfl) (by go_simp; rfl) (by go_simp; rfl) (by go_simp)
theorem x_eq65 {ρ : Operand → Value} {o : Oper} {w : World} {x y : Operand} {u : TypeId} {a b c d : Int} (ho : o.op = .binOp .eql 65 x y u) (hx : ρ x = .agg #[.int .i64 a, .int .i64 b]) (hy : ρ y = .agg #[.int .i64 c, .int .i64 d]) : (execOp ρ o).run Try.prog w = .ok (.value (.bool (a == c && b == d))) w := by
  have h1 := run_eqGuard_agg (P := Try.prog) (w := w) .eql 65 x y #[.int .i64 a, .int .i64 b] #[.int .i64 c, .int .i64 d] Try.eqGuardType65
  have h2 := eqA65 9998 w a c b d
  unfold execOp
  simp only [ho, hx, hy, Sem.run_bind, h1]
  simp [binOp, Op.equal, Op.maxDepth, h2]
/-! ### Lists -/
theorem take_all {α : Type} {p : α → Bool} {xs : List α} {i : Nat} {x : α} (h : xs[i]? = some x) : (xs.take (i + 1)).all p = ((xs.take i).all p && p x) := by
  rw [List.take_add_one, h]
  simp [List.all_append]
theorem all_false_of {α : Type} {p : α → Bool} {xs : List α} {i : Nat} {x : α} (h : xs[i]? = some x) (hp : p x = false) : xs.all p = false := by
  rw [Bool.eq_false_iff]
  intro ha
  have := List.all_eq_true.1 ha x (List.mem_of_getElem? h)
  rw [hp] at this
  cases this
end Go.Proofs.Ytideafkiaipnoaa.Q
