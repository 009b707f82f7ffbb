/- Marks: what they make of a row; whether they stand. -/
import Derived.Test.YtideafkiaipnoaaEnc
import Derived.Test.YtideafkiaipnoaaText
namespace Go.Proofs.Ytideafkiaipnoaa.Q
open Go Go.RowKit Go.Proofs.YtideafkiaipnoaaW.PrintWords Go.Proofs.Ytideafkiaipnoaa.Deed
/-- How an element is marked; with how many marks. -/
structure Mk (α : Type) where
  tok : α → Int → α
  cnt : α → Int
  pos : ∀ x, 0 ≤ cnt x
  same : ∀ x k, cnt (tok x k) = cnt x
  idem : ∀ x k, tok (tok x k) k = tok x k
section
variable {α : Type} (M : Mk α)
def cntL : List α → Int
  | [] => 0
  | x :: r => M.cnt x + cntL r
def mkL : List α → Int → List α
  | [], _ => []
  | x :: r, k => M.tok x k :: mkL r (k + M.cnt x)
noncomputable def heldL : List α → Int → Int
  | [], k => k
  | x :: r, k => by classical exact if x = M.tok x k then heldL r (k + M.cnt x) else -1
def mkU (xs : List α) (k : Int) (i : Nat) : List α := mkL M (xs.take i) k ++ xs.drop i
variable {M}
theorem cntL_pos : ∀ xs : List α, 0 ≤ cntL M xs
  | [] => Int.le_refl _
  | x :: r => by have := M.pos x; have := cntL_pos r; simp only [cntL]; omega
theorem mkL_length : ∀ (xs : List α) (k : Int), (mkL M xs k).length = xs.length
  | [], _ => rfl
  | x :: r, k => by simp [mkL, mkL_length r]
theorem held_mk : ∀ (xs : List α) (k : Int), heldL M (mkL M xs k) k = k + cntL M xs
  | [], k => by simp [heldL, mkL, cntL]
  | x :: r, k => by
    have h := held_mk r (k + M.cnt x)
    simp only [mkL, heldL, cntL, M.idem, M.same, if_true, h]
    omega
theorem cntL_snoc (xs : List α) (x : α) : cntL M (xs ++ [x]) = cntL M xs + M.cnt x := by
  induction xs with
  | nil => simp [cntL]
  | cons y r ih => simp only [List.cons_append, cntL, ih]; omega
theorem mkL_snoc : ∀ (xs : List α) (x : α) (k : Int), mkL M (xs ++ [x]) k = mkL M xs k ++ [M.tok x (k + cntL M xs)]
  | [], x, k => by simp [mkL, cntL]
  | y :: r, x, k => by
    simp only [List.cons_append, mkL, mkL_snoc r x, cntL]
    rw [show k + M.cnt y + cntL M r = k + (M.cnt y + cntL M r) by omega]
variable [Inhabited α]
theorem gd_take {xs : List α} {i : Int} (h0 : 0 ≤ i) (h1 : i < xs.length) : xs.take (i + 1).toNat = xs.take i.toNat ++ [gd xs i] := by
  rw [show (i + 1).toNat = i.toNat + 1 by omega, List.take_add_one, gd_of h0 h1]; rfl
theorem gd_drop {xs : List α} {i : Int} (h0 : 0 ≤ i) (h1 : i < xs.length) : xs.drop i.toNat = gd xs i :: xs.drop (i + 1).toNat := by
  rw [show (i + 1).toNat = i.toNat + 1 by omega]
  have h := gd_of h0 h1
  have hl : i.toNat < xs.length := by omega
  rw [List.drop_eq_getElem_cons hl]
  congr 1
  rw [List.getElem?_eq_getElem hl] at h
  exact Option.some.inj h
theorem cntL_step {xs : List α} {i : Int} (h0 : 0 ≤ i) (h1 : i < xs.length) : cntL M (xs.take (i + 1).toNat) = cntL M (xs.take i.toNat) + M.cnt (gd xs i) := by rw [gd_take h0 h1, cntL_snoc]
omit [Inhabited α] in
theorem cntL_app (xs ys : List α) : cntL M (xs ++ ys) = cntL M xs + cntL M ys := by
  induction xs with
  | nil => simp [cntL]
  | cons x r ih => simp only [List.cons_append, cntL, ih]; omega
theorem cntL_part {xs : List α} {i : Int} (h0 : 0 ≤ i) (h1 : i < xs.length) : cntL M (xs.take i.toNat) + M.cnt (gd xs i) ≤ cntL M xs := by
  have h := cntL_app (M := M) (xs.take (i + 1).toNat) (xs.drop (i + 1).toNat)
  rw [List.take_append_drop] at h
  have := cntL_pos (M := M) (xs.drop (i + 1).toNat)
  rw [h, cntL_step h0 h1]
  omega
theorem held_yes {xs : List α} {k : Int} {i : Int} (h0 : 0 ≤ i) (h1 : i < xs.length) (h : gd xs i = M.tok (gd xs i) k) : heldL M (xs.drop i.toNat) k = heldL M (xs.drop (i + 1).toNat) (k + M.cnt (gd xs i)) := by
  rw [gd_drop h0 h1, heldL, if_pos h]
theorem held_no {xs : List α} {k : Int} {i : Int} (h0 : 0 ≤ i) (h1 : i < xs.length) (h : gd xs i ≠ M.tok (gd xs i) k) : heldL M (xs.drop i.toNat) k = -1 := by
  rw [gd_drop h0 h1, heldL, if_neg h]
omit [Inhabited α] in
theorem held_end {xs : List α} {k : Int} {i : Int} (h1 : xs.length ≤ i.toNat) : heldL M (xs.drop i.toNat) k = k := by
  rw [List.drop_eq_nil_of_le h1]; rfl
omit [Inhabited α] in
theorem mkU_length (xs : List α) (k : Int) (i : Nat) : (mkU M xs k i).length = xs.length := by
  simp [mkU, mkL_length]; omega
theorem mkU_at {xs : List α} {k i : Int} (h0 : 0 ≤ i) (h1 : i < xs.length) : (mkU M xs k i.toNat)[i.toNat]? = some (gd xs i) := by
  unfold mkU
  rw [List.getElem?_append_right (by rw [mkL_length]; simp; omega), mkL_length, gd_drop h0 h1]
  have : i.toNat - (xs.take i.toNat).length = 0 := by simp; omega
  rw [this]; rfl
theorem mkU_set {xs : List α} {k i : Int} (h0 : 0 ≤ i) (h1 : i < xs.length) : (mkU M xs k i.toNat).set i.toNat (M.tok (gd xs i) (k + cntL M (xs.take i.toNat))) = mkU M xs k (i + 1).toNat := by
  unfold mkU
  have hl : (mkL M (xs.take i.toNat) k).length = i.toNat := by rw [mkL_length]; simp; omega
  rw [List.set_append_right _ _ (by omega), hl, Nat.sub_self, gd_drop h0 h1, List.set_cons_zero, gd_take h0 h1, mkL_snoc]
  simp
omit [Inhabited α] in
theorem mkU_zero (xs : List α) (k : Int) : mkU M xs k (0 : Int).toNat = xs := by simp [mkU, mkL]
omit [Inhabited α] in
theorem mkU_end {xs : List α} {k i : Int} (h1 : xs.length ≤ i.toNat) : mkU M xs k i.toNat = mkL M xs k := by
  unfold mkU
  rw [List.take_of_length_le h1, List.drop_eq_nil_of_le h1, List.append_nil]
omit [Inhabited α] in
theorem set_back {xs : List α} {i : Nat} {x : α} (h : xs[i]? = some x) : xs.set i x = xs := by
  obtain ⟨hl, e⟩ := List.getElem?_eq_some_iff.1 h
  rw [← e, List.set_getElem_self]
end
/-- The store of one cell into an element that is being written. -/
theorem rstoreE {α : Type} {E : Enc α} {P : Program} {ops : Array Oper} {l : List FS} {dead : List (List Nat)} {k : Nat} {o : Oper} {a : Act} {t : TypeId} {x y : Operand} {w W : World} {A : Option Addr} {base : List α} {i j lo hi : Nat} {x0 x1 : α} {p : Addr} {u : Value}
    (hg : o.guard = none) (ho : o.op = .store t x y) (hx : a.eval x = .pointer (some p)) (hp : p = (adr A).add (i * E.n + j)) (hy : a.eval y = u) (h1 : u.oneCell' = true) (hs : (P.info? t).map (·.size) = some 1) (H : OwnAt E w A (base.set i x0) lo hi) (hb : Below w.heap.size w W) (hil : i < base.length)
    (he : E.enc x1 = (E.enc x0).set j u) (hin : E.inn x1 = E.inn x0) (hj : j < E.n) (hF : ∀ W', OwnAt E W' A (base.set i x1) lo hi → Kx (Mine lo hi) w W' → LH l k (upd (sl a) o.dst undef) W') (hk : KeepL (sl a) W (W.setCell p u) k (dead.getD k []) 0 l) :
    Runs P ops o a W (OweL l dead k o (sl a) W) := by
  obtain ⟨⟨v, hv⟩, hf, h2, h3⟩ := (H.below hb).set (i := i) (x1 := x1) (by rw [List.getElem?_set_self hil]) he hin hj
  rw [List.set_set] at h2
  rw [← hp] at hv hf h2 h3
  exact runs_skip (wanted_none hg) (x_store1 ho hx hy h1 hs hv hf) (owe_keep hk (hF _ h2 (kx_tr (kx_of_below hb _) h3)))
theorem OwnAt.same {α : Type} {E : Enc α} {w : World} {A : Option Addr} {xs : List α} {lo hi i : Nat} {x0 x1 : α} (h : OwnAt E w A xs lo hi) (hx : xs[i]? = some x0) (he : E.enc x1 = E.enc x0) (hi1 : E.inn x1 = E.inn x0) : OwnAt E w A (xs.set i x1) lo hi := by
  have hil : i < xs.length := (List.getElem?_eq_some_iff.1 hx).1
  have key : ∀ (a : Nat) (y : α), (xs.set i x1)[a]? = some y → ∃ y', xs[a]? = some y' ∧ E.enc y = E.enc y' ∧ E.inn y = E.inn y' := by
    intro a y hy
    by_cases e : a = i
    · subst e
      rw [List.getElem?_set_self hil] at hy
      cases hy
      exact ⟨x0, hx, he, hi1⟩
    · rw [List.getElem?_set_ne (Ne.symm e)] at hy
      exact ⟨y, hy, rfl, rfl⟩
  refine ⟨?_, ?_, ?_, ?_⟩
  · rcases h.out with h1 | ⟨g, L, h1, h2, h3, h4, h5⟩
    · rw [h1] at hx; simp at hx
    · refine .inr ⟨g, L, h1, h2, h3, h4, fun a y hy j u hu => ?_⟩
      obtain ⟨y', u1, u2, _⟩ := key a y hy
      exact h5 a y' u1 j u (u2 ▸ hu)
  · intro a y B ys hy hin
    obtain ⟨y', u1, _, u3⟩ := key a y hy
    exact h.inn a y' B ys u1 (u3 ▸ hin)
  · intro a y g ys hy hin hne
    obtain ⟨y', u1, _, u3⟩ := key a y hy
    exact h.far a y' g ys u1 (u3 ▸ hin) hne
  · intro a b y z g ys zs hy hz hiy hiz
    obtain ⟨y', u1, _, u3⟩ := key a y hy
    obtain ⟨z', v1, _, v3⟩ := key b z hz
    exact h.dis a b y' z' g ys zs u1 v1 (u3 ▸ hiy) (v3 ▸ hiz)
/-- A whole element stored into a row that is being made. -/
theorem rstoreC {α : Type} {E : Enc α} {P : Program} {ops : Array Oper} {l : List FS} {dead : List (List Nat)} {k : Nat} {o : Oper} {a : Act} {t : TypeId} {x y : Operand} {w W : World} {g lo n i : Nat} {xs : List α} {x1 : α}
    (hg : o.guard = none) (ho : o.op = .store t x y) (hx : a.eval x = .pointer (some ⟨g, i * E.n, none⟩)) (hy : a.eval y = .agg (E.enc x1).toArray) (h1 : ∀ v ∈ E.enc x1, v.oneCell' = true) (hs : (P.info? t).map (·.size) = some (E.enc x1).length)
    (H : Cpy E w g lo n xs) (hil : xs.length = i) (hn : i < n) (hb : Below w.heap.size w W) (hlo : lo ≤ w.heap.size) (hin : ∀ B ys, E.inn x1 = some (B, ys) → ∃ gt : Nat, B = some ⟨gt, 0, none⟩ ∧ w.heap.size ≤ gt ∧ IB W gt ys 3)
    (hF : ∀ W', Cpy E W' g lo n (xs ++ [x1]) → Kx (fun k => k = g) w W' → LH l k (upd (sl a) o.dst undef) W') (hk : ∀ W', KeepL (sl a) W W' k (dead.getD k []) 0 l) : Runs P ops o a W (OweL l dead k o (sl a) W) := by
  subst hil
  have hgw : g < w.heap.size := by obtain ⟨L, h2, _⟩ := H; exact blk_lt h2
  have hold := H
  replace H := H.below hb
  refine runs_skip (wanted_none hg) (x_storeS (cs := E.enc x1) ho hx hy h1 hs (fun j hj => H.cells hn j (by rwa [E.len] at hj)) (fun j _ => H.free _)) (owe_keep (hk _) (hF _ (H.store hn x1 ?_) (kx_tr (kx_of_below hb _) (kx_cells (fun k => k = g) rfl))))
  intro B ys hB
  obtain ⟨gt, rfl, h3, h4⟩ := hin B ys hB
  refine ⟨OwnI.of_IB h4 (by omega) (blk_lt h4), fun e => ?_, ?_⟩
  · injection e with e
    injection e with e _ _
    omega
  · intro g' e i' x' ys' hx' hy' hne
    exfalso
    injection e with e
    injection e with e _ _
    subst e
    obtain ⟨L, _, _, _, h5⟩ := hold
    rcases h5.inn i' x' _ ys' hx' hy' with h6 | ⟨g2, L2, e2, _, h7, _⟩
    · exact hne h6
    · injection e2 with e2
      injection e2 with e2 _ _
      omega
theorem rmakeC {α : Type} {E : Enc α} {P : Program} {ops : Array Oper} {l : List FS} {dead : List (List Nat)} {k : Nat} {o : Oper} {ac : Act} {w W : World} {x y : Operand} {t e : TypeId} {a : Int} {n bytes : Nat} {z : Value} (hgr : AllGrow (l.map FS.H)) (hg : o.guard = none) (ho : o.op = .makeSlice t x y) (hx : ac.eval x = .int .i64 a) (hy : ac.eval y = .int .i64 a) (ht : P.underlying t = some (.slice e)) (hi : (P.info? e).map (fun i => (i.zero, i.size, i.bytes)) = some (some z, E.n, bytes)) (he : e = E.T) (ha : a = (n : Int)) (hn : n ≤ 1048576) (hs : E.n ≤ 1024) (hb : bytes ≤ 1048576) (hw : w.heap.size ≤ W.heap.size)
    (hF : ∀ (g : Nat) (W' : World), Cpy E W' g w.heap.size n [] → LH l k (upd (sl ac) o.dst (.slice (some ⟨g, 0, none⟩) n n)) W') : Runs P ops o ac W (OweL l dead k o (sl ac) W) := by
  subst he
  exact rmakeO hgr hg ho hx hy ht hi ha hn hs hb fun L W' h1 h2 => hF _ _ (Cpy.start h2 h1 hw)
/-- The integers of an element marked by a call. -/
theorem rmarkI {α : Type} {E : Enc α} {P : Program} {ops : Array Oper} {l : List FS} {dead : List (List Nat)} {k : Nat} {o : Oper} {a : Act} {w W : World} {A B : Option Addr} {base : List α} {i lo hi c : Nat} {x0 x1 : α} {ys : List Int} {kk : Int} {f : FuncId} {fn : Func} {ars : Array Operand} {ts : Array TypeId}
    (hf : P.funcs[f]? = some fn) (hname : (fn.name == "runtime.NumGoroutine") = false) (hbd : fn.body.isSome = true) (hg : o.guard = none) (hop : o.op = .call { callee := .value (.func f), args := ars, argTypes := ts }) (hargs : ars.map a.eval = #[.slice B ys.length c, .int .i64 kk])
    (hc : ∀ (g : Nat) (A : Option Addr) (n c : Nat) (k : Int) (w : World), WI w g A n → 0 ≤ k → k + n ≤ 4503599627370496 → Calls P f #[.slice A n c, .int .i64 k] w fun e w' => e = .returned (.int .i64 (k + n)) ∧ MI w' g A n k n ∧ Kx (fun k => k = g) w w')
    (hx : (base.set i x0)[i]? = some x0) (hi0 : E.inn x0 = some (B, ys)) (he : E.enc x1 = E.enc x0) (hi1 : E.inn x1 = some (B, mk kk ys.length)) (H : OwnAt E w A (base.set i x0) lo hi) (hb : Below w.heap.size w W) (h0 : 0 ≤ kk) (h1 : kk + ys.length ≤ 4503599627370496)
    (hF : ∀ W', OwnAt E W' A ((base.set i x0).set i x1) lo hi → Kx (Mine lo hi) w W' → LH l k (upd (sl a) o.dst (.int .i64 (kk + ys.length))) W') (hk : ∀ W', KeepL (sl a) W W' k (dead.getD k []) 0 l) : Runs P ops o a W (OweL l dead k o (sl a) W) := by
  have HW := H.below hb
  by_cases hne : ys = []
  · subst hne
    refine runs_call hf hname hbd _ (wanted_none hg) hop hargs ((hc W.heap.size B 0 c kk W (.inl rfl) h0 h1).mono fun e W' ⟨e1, _, e3⟩ => ⟨_, e1, owe_keep (hk W') (hF W' ?_ ?_)⟩)
    · have hbl : Kx (fun _ => False) W W' := ⟨e3.os, e3.tape, e3.output, e3.size, fun k hk' _ => e3.block k hk' (by omega)⟩
      exact (HW.kx hbl (fun _ _ _ h => h)).same hx he (by rw [hi1, hi0]; rfl)
    · have hbl : Kx (Mine lo hi) W W' := ⟨e3.os, e3.tape, e3.output, e3.size, fun k hk' _ => e3.block k hk' (by omega)⟩
      exact kx_tr (kx_of_below hb _) hbl
  · obtain ⟨g, hB, hlo, hhi, hWI⟩ := (HW.inn i x0 B ys hx hi0).WI hne
    refine runs_call hf hname hbd _ (wanted_none hg) hop hargs ((hc g B ys.length c kk W hWI h0 h1).mono fun e W' ⟨e1, e2, e3⟩ => ⟨_, e1, owe_keep (hk W') (hF W' ?_ ?_)⟩)
    · exact HW.mark hx hi0 he hi1 (mk_length _ _) hne hB e3 (e2.own hlo hhi)
    · exact kx_tr (kx_of_below hb _) (kx_wide e3 fun j e => by subst e; exact ⟨hlo, hhi⟩)
end Go.Proofs.Ytideafkiaipnoaa.Q
