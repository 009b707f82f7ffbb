/- The book of a log: what it is; its rows read. -/
import Derived.Test.YtideafkiaipnoaaPut
import Derived.Test.YtideafkiaipnoaaCounts
namespace Go.Proofs.Ytideafkiaipnoaa.Q
open Go Go.RowKit Go.Proofs.YtideafkiaipnoaaW.PrintWords Go.Proofs.Ytideafkiaipnoaa.Deed
def Bk.zero : Bk := ⟨List.replicate 16 [], List.replicate 101 0, 0, (0, 0)⟩
def bk (ls : List LO) : Bk := ls.foldl Bk.put Bk.zero
theorem bk_snoc (ls : List LO) (x : LO) : bk (ls ++ [x]) = (bk ls).put x := by simp [bk]
def lo (os : List Op) (D : Nat → Option Addr) (C : Nat → Nat) (i : Nat) : LO := ⟨os.getD i default, D i, C i⟩
/-- The first n operations, located. -/
def los (os : List Op) (D : Nat → Option Addr) (C : Nat → Nat) (n : Nat) : List LO := (List.range n).map (lo os D C)
theorem los_snoc {os : List Op} {D : Nat → Option Addr} {C : Nat → Nat} {i : Int} (h0 : 0 ≤ i) : los os D C (i + 1).toNat = los os D C i.toNat ++ [⟨go_ os i, D i.toNat, C i.toNat⟩] := by
  rw [show (i + 1).toNat = i.toNat + 1 by omega]
  simp [los, List.range_succ, lo, go_]
theorem los_ops {os : List Op} {D : Nat → Option Addr} {C : Nat → Nat} {n : Nat} (h : n ≤ os.length) : (los os D C n).map (·.o) = os.take n := by
  apply List.ext_getElem
  · simp [los]; omega
  · intro i h1 h2
    simp [los] at h1
    have : i < os.length := by omega
    simp [los, lo, List.getD_eq_getElem?_getD, this]
theorem los_length (os : List Op) (D : Nat → Option Addr) (C : Nat → Nat) (n : Nat) : (los os D C n).length = n := by simp [los]
theorem rev_ind {α : Type} {p : List α → Prop} (h0 : p []) (h1 : ∀ l x, p l → p (l ++ [x])) (l : List α) : p l := by
  have : ∀ r : List α, p r.reverse := by
    intro r
    induction r with
    | nil => exact h0
    | cons x r ih => rw [List.reverse_cons]; exact h1 _ _ ih
  have h := this l.reverse
  rwa [List.reverse_reverse] at h
theorem bk_lof (ls : List LO) : (bk ls).of.length = 16 := by
  induction ls using rev_ind with
  | h0 => simp [bk, Bk.zero]
  | h1 l x ih => rw [bk_snoc]; simp [Bk.put, ih]
theorem bk_size (ls : List LO) : (bk ls).size = ls.length := by
  induction ls using rev_ind with
  | h0 => simp [bk, Bk.zero]
  | h1 l x ih => rw [bk_snoc]; simp [Bk.put, ih]
theorem bk_kind (ls : List LO) : (bk ls).kind = tf thing (ls.map (·.o)) := by
  induction ls using rev_ind with
  | h0 => rfl
  | h1 l x ih => rw [bk_snoc, List.map_append, List.map_singleton, tf_snoc, ← ih]; rfl
theorem bk_of (ls : List LO) (ha : ∀ x ∈ ls, 0 ≤ x.o.actor ∧ x.o.actor < 16) {a : Int} (h0 : 0 ≤ a) (h1 : a < 16) : (bk ls).of.getD a.toNat [] = ls.filter fun x => x.o.actor == a := by
  induction ls using rev_ind with
  | h0 =>
    show (List.replicate 16 ([] : List LO)).getD a.toNat [] = _
    rw [List.getD_eq_getElem?_getD, List.getElem?_replicate]
    split <;> rfl
  | h1 l x ih =>
    have hl := bk_lof l
    obtain ⟨hx0, hx1⟩ := ha x (by simp)
    have ih' := ih (fun y hy => ha y (by simp [hy]))
    rw [bk_snoc, List.filter_append]
    show ((bk l).of.set x.o.actor.toNat ((bk l).of.getD x.o.actor.toNat [] ++ [x])).getD a.toNat [] = _
    by_cases e : x.o.actor = a
    · subst e
      rw [List.getD_eq_getElem?_getD, List.getElem?_set_self (by omega), Option.getD_some, ih']
      simp
    · have : x.o.actor.toNat ≠ a.toNat := by omega
      rw [List.getD_eq_getElem?_getD, List.getElem?_set_ne this, ← List.getD_eq_getElem?_getD, ih']
      simp [e]
theorem bk_of_le (ls : List LO) (i : Nat) : ((bk ls).of.getD i []).length ≤ ls.length := by
  induction ls using rev_ind with
  | h0 =>
    show ((List.replicate 16 ([] : List LO)).getD i []).length ≤ _
    rw [List.getD_eq_getElem?_getD, List.getElem?_replicate]
    split <;> simp
  | h1 l x ih =>
    rw [bk_snoc]
    show (((bk l).of.set x.o.actor.toNat ((bk l).of.getD x.o.actor.toNat [] ++ [x])).getD i []).length ≤ _
    have hx : ∀ j, ((bk l).of.getD j []).length ≤ l.length ∨ True := fun _ => .inr trivial
    by_cases e : x.o.actor.toNat = i
    · subst e
      by_cases hl : x.o.actor.toNat < (bk l).of.length
      · rw [List.getD_eq_getElem?_getD, List.getElem?_set_self hl]
        simp only [Option.getD_some, List.length_append, List.length_singleton]
        exact Nat.succ_le_succ ih
      · rw [List.set_eq_of_length_le (by omega)]
        simp only [List.length_append, List.length_singleton]
        omega
    · rw [List.getD_eq_getElem?_getD, List.getElem?_set_ne e, ← List.getD_eq_getElem?_getD]
      simp only [List.length_append, List.length_singleton]
      omega
/-- The n-th of actor a. -/
def lnth (os : List Op) (D : Nat → Option Addr) (C : Nat → Nat) (a n : Int) : LO := ((los os D C os.length).filter fun x => x.o.actor == a).getD (n - 1).toNat default
def onth (os : List Op) (a n : Int) : Op := (os.filter fun o => o.actor == a).getD (n - 1).toNat default
theorem lnth_o (os : List Op) (D : Nat → Option Addr) (C : Nat → Nat) (a n : Int) : (lnth os D C a n).o = onth os a n := by
  have h : os.filter (fun o => o.actor == a) = ((los os D C os.length).filter fun x => x.o.actor == a).map (·.o) := by
    have h2 := los_ops (os := os) (D := D) (C := C) (Nat.le_refl os.length)
    rw [List.take_length] at h2
    conv => lhs; rw [← h2]
    rw [List.filter_map]
    rfl
  unfold lnth onth
  rw [h, List.getD_eq_getElem?_getD, List.getD_eq_getElem?_getD, List.getElem?_map]
  cases ((los os D C os.length).filter fun x => x.o.actor == a)[(n - 1).toNat]? <;> rfl
/-! ### The book's blocks are the call's own -/
def okW (w W : World) (k : Nat) : Prop := w.heap.size ≤ k ∧ k < W.heap.size
section
variable {w0 w W W' : World} {ok : Nat → Prop} {g : Nat} {vs : List Value} {B : Bk}
theorem BookAt.lift (h : BookAt w0 ok W g vs B) (hok : ∀ k, ok k → w.heap.size ≤ k) : BookAt w0 (okW w W) W g vs B :=
  ⟨⟨hok _ h.okg, h.lt⟩, h.lvs, h.lof, h.lkind, h.blk, fun i v ps hv hps => ⟨(h.rows i v ps hv hps).1, fun k hk => by
    obtain ⟨⟨inner, ho, _⟩, h2⟩ := h.rows i v ps hv hps
    exact ⟨hok _ (h2 k hk), own_lt ho k hk⟩⟩, h.apart⟩
theorem BookAt.stepW (h : BookAt w0 (okW w W) W g vs B) (hb : Below W.heap.size W W') : BookAt w0 (okW w W') W' g vs B := (h.below hb).imp fun _ hk => ⟨hk.1, Nat.lt_of_lt_of_le hk.2 hb.size⟩
theorem own_len {R : LO → List Value → Prop} {v : Value} {ps : List LO} {e : TypeId} {size : Nat} (h : OwnRow R e size W 0 v ps) : ∃ A c, v = .slice A ps.length c := by
  obtain ⟨A, c, h, _⟩ := h.slice_
  exact ⟨A, c, h⟩
/-- A book with nothing in it. -/
theorem BookAt.zero (hb : W.heap[g]? = some (.cells (bookCells (List.replicate 16 (.slice none 0 0)) Bk.zero).toArray 75 (0, 0))) (hok : ok g) : BookAt w0 ok W g (List.replicate 16 (.slice none 0 0)) Bk.zero := by
  refine ⟨hok, by simp, rfl, by simp [Bk.zero], hb, ?_, ?_⟩
  · intro i v ps hv hps
    have h1 : v = .slice none 0 0 := by
      rw [List.getElem?_replicate] at hv
      split at hv <;> simp_all
    have h2 : ps = [] := by
      simp only [Bk.zero] at hps
      rw [List.getElem?_replicate] at hps
      split at hps <;> simp_all
    subst h1 h2
    exact ⟨OwnRow.none_ _ _ _ _ _, fun k hk => by simp [Value.ownBlock] at hk⟩
  · intro i j u v _ hu _ k hk
    rw [List.getElem?_replicate] at hu
    split at hu
    · cases hu; simp [Value.ownBlock] at hk
    · cases hu
end
def vadr : Value → Addr
  | .slice A _ _ => adr A
  | _ => ⟨0, 0, none⟩
section
variable {P : Program} {ρ : Operand → Value} {o : Oper} {w : World} {x y : Operand} {t e : TypeId} {v : Value} {α : Type} {R : α → List Value → Prop} {ps : List α} {size base : Nat}
theorem x_len_own {e2 : TypeId} {k : Int} (ho : o.op = .call { callee := .builtin .len, args := #[x], argTypes := #[t] }) (ht : P.underlying t = some (.slice e)) (h : ρ x = v) (HO : OwnRow R e2 size w base v ps) (hk : (ps.length : Int) = k) : (execOp ρ o).run P w = .ok (.value (.int .i64 k)) w := by
  obtain ⟨A, c, e, _⟩ := HO.slice_
  subst hk
  exact x_len_slice ho ht (h.trans e)
theorem own_adr {e2 : TypeId} (HO : OwnRow R e2 size w base v ps) {i : Int} (h0 : 0 ≤ i) (h1 : i < ps.length) : ∃ c, v = .slice (some (vadr v)) ps.length c := by
  obtain ⟨A, c, e, _, hr⟩ := HO.reads
  obtain ⟨ad, hA, _⟩ := hr.2.2 (by omega)
  refine ⟨c, ?_⟩
  subst e hA
  rfl
theorem x_index_own {e2 : TypeId} {k : IntKind} {i : Int} {m : Nat} (ho : o.op = .indexAddr t x y) (h : ρ x = v) (hy : ρ y = .int k i) (ht : P.underlying t = some (.slice e)) (hi : (P.info? e).map (·.size) = some m) (HO : OwnRow R e2 size w base v ps) (h0 : 0 ≤ i) (h1 : i < ps.length) :
    (execOp ρ o).run P w = .ok (.value (.pointer (some ((vadr v).add (i.toNat * m))))) w := by
  obtain ⟨c, e⟩ := own_adr HO h0 h1
  exact x_index_slice ho (h.trans e) hy ht hi h0 h1 rfl
theorem own_cells {e2 : TypeId} (HO : OwnRow R e2 size w base v ps) (d : α) {i : Int} (h0 : 0 ≤ i) (h1 : i < ps.length) : ∃ c, c.length = size ∧ R (ps.getD i.toNat d) c ∧ ∀ j u, c[j]? = some u → w.cell? (((vadr v).add (i.toNat * size)).add j) = some u := by
  obtain ⟨A, c, e, _, hr⟩ := HO.reads
  obtain ⟨ad, cs, hA, hl, hR, hc⟩ := hr.get_ d i h0 h1
  refine ⟨cs, hl, hR, fun j u hu => ?_⟩
  subst e hA
  rw [add_add]
  exact hc j u hu
end
theorem lo_cells {w0 w : World} {v : Value} {ps : List LO} (HO : OwnRow (LoIn w0) 67 12 w 0 v ps) {i : Int} (h0 : 0 ≤ i) (h1 : i < ps.length) {x : LO} (hx : ps.getD i.toNat default = x) : ∀ j u, (opc x.o x.A x.c)[j]? = some u → w.cell? (((vadr v).add (i.toNat * 12)).add j) = some u := by
  obtain ⟨c, _, hR, hc⟩ := own_cells HO default h0 h1
  rw [hx] at hR
  rw [← hR.1]
  exact hc
section
variable {w0 w W : World} {ok : Nat → Prop} {g : Nat} {vs : List Value} {B : Bk} {os : List Op} {D : Nat → Option Addr} {C : Nat → Nat} {n : Nat}
theorem los_act (hn : n ≤ os.length) (HA : Actors (os.take n)) : ∀ x ∈ los os D C n, 0 ≤ x.o.actor ∧ x.o.actor < 16 := by
  intro x hx
  refine HA x.o ?_
  rw [← los_ops (D := D) (C := C) hn]
  exact List.mem_map_of_mem hx
theorem BookAt.ownA (h : BookAt w0 ok W g vs (bk (los os D C n))) (hn : n ≤ os.length) (HA : Actors (os.take n)) {a : Int} (h0 : 0 ≤ a) (h1 : a < 16) : OwnRow (LoIn w0) 67 12 W 0 (vs.getD a.toNat undef) ((los os D C n).filter fun x => x.o.actor == a) := by
  rw [← bk_of _ (los_act hn HA) h0 h1]
  exact (h.row (by omega)).1
theorem filt_num (hn : n ≤ os.length) (a : Int) : ((((los os D C n).filter fun x => x.o.actor == a)).length : Int) = num (os.take n) a := by
  unfold num
  rw [← los_ops (D := D) (C := C) hn, List.filter_map, List.length_map]
  rfl
theorem BookAt.ckindT (h : BookAt w0 ok W g vs (bk (los os D C n))) (hn : n ≤ os.length) {j : Int} (h0 : 0 ≤ j) (h1 : j < 101) : W.cell? ⟨g, 16 + j.toNat, none⟩ = some (.int .i64 (gi (tf thing (os.take n)) j)) := by
  rw [h.ckind (by omega), bk_kind, los_ops hn]
  rfl
theorem BookAt.kinds (h : BookAt w0 ok W g vs B) : ∀ (j : Nat) (u : Value), (B.kind.map (Value.int .i64))[j]? = some u → W.cell? ((⟨g, 16, none⟩ : Addr).add j) = some u := by
  intro j u hu
  have hj : j < B.kind.length := by have := (List.getElem?_eq_some_iff.1 hu).1; simpa using this
  rw [add_mk, h.ckind (by rw [← h.lkind]; exact hj)]
  rw [List.getElem?_map, List.getElem?_eq_getElem hj] at hu
  simpa [List.getD_eq_getElem?_getD, hj] using hu
theorem acts_of {i : Int} (h : ∀ j : Int, 0 ≤ j → j < i → iOp (go_ os j) = true) (hi : i ≤ os.length) : Actors (os.take i.toNat) := by
  intro o ho
  obtain ⟨k, hk, e⟩ := List.getElem_of_mem ho
  rw [List.length_take] at hk
  have hk2 : k < os.length := by omega
  have e2 : go_ os (k : Int) = o := by
    rw [← e, List.getElem_take]
    simp [go_, List.getD_eq_getElem?_getD, hk2]
  have := iOp_fine (e2 ▸ h k (by omega) (by omega))
  exact ⟨this.a0, this.a1⟩
end
theorem nor_l {a b : Bool} (h : (((!a) || b) == false) = true) : a = true := by cases a <;> simp_all
end Go.Proofs.Ytideafkiaipnoaa.Q
