/- What the law needs, part 1 of 6. -/
import Derived.Orders
import Derived.Tactics
import Derived.WalkKit
import Derived.Below
import Derived.Deep.Draws
import Derived.Deep.AppendLies
import Derived.Maps.AppendAt
import Derived.OwnWalk
import Derived.Laws.BytesArg
import Derived.Laws.MakeOwn
import Derived.Laws.OwnMore
import Derived.Deep.OwnRows
import Derived.Lib.ConvBytes
import Derived.Laws.Slices
import Derived.KernelRfl
import Derived.RowKit3
import Derived.Deep.LoopGhost
import Derived.Deep.QuietTactic
import Derived.BigQuiet
import Derived.WideLaws
import Derived.Deep.DeepCutAuto
import Derived.Deep.CutBlock
import Derived.Deep.RegionHeld3
import Derived.Laws.Rows
import Derived.Lib.AppendStr
import Derived.ArgAppend
import Derived.Laws.IdiomCopy
import Derived.RowKit
import Derived.OrdersHeld
import Derived.Laws.BitsLemmas
import Derived.Test.YtideafkiaipnoaaProg
import Derived.Laws.StructEq
import Derived.Laws.BytesString
/- A region of operations, its order drawn or not, walked by local facts: each operation leaves a fact on slots and memory; what comes later keeps it. No order is enumerated. -/
namespace Go.Proofs.Ytideafkiaipnoaa.Deed
set_option linter.unusedVariables false
set_option linter.unusedSimpArgs false
open Go

/-- What the slots hold. -/
def sl (a : Act) : Nat → Value := fun t => a.tmps.getD t undef
def upd (s : Nat → Value) : Option Tmp → Value → Nat → Value
  | none, _ => s
  | some d, v => fun t => if t = d then v else s t
theorem sl_put (a : Act) (dst : Option Tmp) (v : Value) (h : ∀ d, dst = some d → d < a.tmps.size) : sl (a.put dst v) = upd (sl a) dst v := by
  cases dst with
  | none => rfl
  | some d =>
    funext t
    have hd := h d rfl
    simp only [sl, Act.put, upd, Array.getD_eq_getD_getElem?, Array.getElem?_setIfInBounds]
    by_cases e : t = d
    · subst e
      simp [hd]
    · rw [if_neg e, if_neg (fun h => e h.symm)]
theorem put_size (a : Act) (dst : Option Tmp) (v : Value) : (a.put dst v).tmps.size = a.tmps.size := by
  cases dst <;> simp [Act.put]
theorem put_defers (a : Act) (dst : Option Tmp) (v : Value) : (a.put dst v).defers = a.defers := by
  cases dst <;> rfl
/-! ### What comes before what -/
inductive Before (ops : List Oper) : Nat → Nat → Prop where
  | edge {i : Nat} {o : Oper} {e : Edge} (h : ops[i]? = some o) (he : e ∈ o.after) (hb : Region.binds .any e = true) : Before ops i e.on
  | step {i j : Nat} {o : Oper} {e : Edge} (h : ops[i]? = some o) (he : e ∈ o.after) (hb : Region.binds .any e = true) (hj : Before ops e.on j) : Before ops i j
def befOne (acc : List Nat) : List Edge → Nat
  | [] => 0
  | e :: r => (if Region.binds .any e then 2 ^ e.on ||| acc.getD e.on 0 else 0) ||| befOne acc r
def befGo (acc : List Nat) : List Oper → List Nat
  | [] => acc
  | o :: r => befGo (acc ++ [befOne acc o.after.toList]) r
def bef (ops : List Oper) : List Nat := befGo [] ops
theorem befOne_spec {ops : List Oper} {acc : List Nat} {i : Nat} {o : Oper} (ho : ops[i]? = some o) (hacc : ∀ i j, (acc.getD i 0).testBit j = true → Before ops i j) :
    ∀ (l : List Edge), (∀ e ∈ l, e ∈ o.after) → ∀ j, (befOne acc l).testBit j = true → Before ops i j
  | [], _, j, h => by simp [befOne] at h
  | e :: r, hl, j, h => by
    unfold befOne at h
    rw [Nat.testBit_or, Bool.or_eq_true] at h
    rcases h with h | h
    · cases hb : Region.binds .any e with
      | false => rw [hb] at h; simp at h
      | true =>
        rw [hb, if_pos rfl, Nat.testBit_or, Bool.or_eq_true, Nat.testBit_two_pow] at h
        rcases h with h | h
        · have : e.on = j := by simpa using h
          subst this
          exact .edge ho (hl e (by simp)) hb
        · exact .step ho (hl e (by simp)) hb (hacc _ _ h)
    · exact befOne_spec ho hacc r (fun e he => hl e (by simp [he])) j h
theorem befGo_spec {ops : List Oper} : ∀ (r pre : List Oper) (acc : List Nat), ops = pre ++ r → acc.length = pre.length → (∀ i j, (acc.getD i 0).testBit j = true → Before ops i j) →
    ∀ i j, ((befGo acc r).getD i 0).testBit j = true → Before ops i j
  | [], _, _, _, _, hacc => hacc
  | o :: r, pre, acc, he, hl, hacc => by
    refine befGo_spec r (pre ++ [o]) _ (by simp [he]) (by simp [hl]) ?_
    intro i j h
    rcases Nat.lt_or_ge i acc.length with hi | hi
    · exact hacc i j (by simpa [List.getD_eq_getElem?_getD, List.getElem?_append_left hi] using h)
    · have hi' : i = acc.length := by
        rcases Nat.eq_or_lt_of_le hi with e | e
        · exact e.symm
        · exfalso
          have : (acc ++ [befOne acc o.after.toList])[i]? = none := List.getElem?_eq_none (by simp; omega)
          rw [List.getD_eq_getElem?_getD, this] at h
          simp at h
      subst hi'
      have ho : ops[acc.length]? = some o := by rw [he, hl]; simp
      refine befOne_spec ho hacc o.after.toList (fun e he => by simpa using he) j ?_
      simpa [List.getD_eq_getElem?_getD] using h
theorem bef_spec {ops : List Oper} {i j : Nat} (h : ((bef ops).getD i 0).testBit j = true) : Before ops i j :=
  befGo_spec ops [] [] rfl rfl (fun i j h => by simp at h) i j h

def Closed (ops : Array Oper) (listed : Array Bool) : Prop :=
  ∀ i o, ops[i]? = some o → listed.getD i false = true → ∀ e ∈ o.after, Region.binds .any e = true → listed.getD e.on false = true
theorem Closed.before {ops : Array Oper} {listed : Array Bool} (hc : Closed ops listed) {i j : Nat} (h : Before ops.toList i j) : listed.getD i false = true → listed.getD j false = true := by
  induction h with
  | edge ho he hb => exact fun hl => hc _ _ (by simpa using ho) hl _ he hb
  | step ho he hb _ ih => exact fun hl => ih (hc _ _ (by simpa using ho) hl _ he hb)

/-! ### The static check -/
def okPre (B : List Nat) (n i : Nat) (dead : List (List Nat)) (k : Nat) : Bool :=
  (decide (n ≤ k) || (B.getD i 0).testBit k) && (List.range n).all fun e => !(dead.getD e []).contains k || e == i || (B.getD e 0).testBit i || (decide (k < n) && (B.getD k 0).testBit e)
def okFin (B : List Nat) (n : Nat) (dead : List (List Nat)) (k : Nat) : Bool :=
  (List.range n).all fun e => !(dead.getD e []).contains k || (decide (k < n) && (B.getD k 0).testBit e)
def okOp (B : List Nat) (n N : Nat) (pre dead fp : List (List Nat)) (i : Nat) (o : Oper) : Bool :=
  (o.after.toList.all fun e => !Region.binds .any e || decide (e.on < i)) &&
  ((pre.getD i []).all fun k => okPre B n i dead k) &&
  (match o.dst with
   | none => true
   | some d => decide (d < N) && (List.range fp.length).all fun k => !(fp.getD k []).contains d || (dead.getD i []).contains k || (decide (k < n) && (k == i || (B.getD k 0).testBit i)))
def okAll (B : List Nat) (n N : Nat) (pre dead fp : List (List Nat)) : Nat → List Oper → Bool
  | _, [] => true
  | i, o :: r => okOp B n N pre dead fp i o && okAll B n N pre dead fp (i + 1) r
def deedOk (ops : List Oper) (N : Nat) (pre dead fp : List (List Nat)) (fin : List Nat) : Bool :=
  okAll (bef ops) ops.length N pre dead fp 0 ops && fin.all fun k => decide (k < fp.length) && okFin (bef ops) ops.length dead k
theorem okAll_spec {B : List Nat} {n N : Nat} {pre dead fp : List (List Nat)} : ∀ (l : List Oper) (k : Nat), okAll B n N pre dead fp k l = true → ∀ j o, l[j]? = some o → okOp B n N pre dead fp (k + j) o = true
  | [], _, _, _, _, h => by simp at h
  | o :: r, k, h, j, o', hj => by
    unfold okAll at h
    rw [Bool.and_eq_true] at h
    cases j with
    | zero => simp at hj; subst hj; exact h.1
    | succ j =>
      have := okAll_spec r (k + 1) h.2 j o' (by simpa using hj)
      rwa [show k + 1 + j = k + (j + 1) by omega] at this

/-! ### One operation -/
/-- The operation, if its guard lets it run, leaves a value v and a world w' of which R tells; if its guard holds it back, R tells of 'undef' and the world as it is. -/
def Runs (P : Program) (ops : Array Oper) (o : Oper) (a : Act) (w : World) (R : Value → World → Prop) : Prop :=
  if Region.wanted o (yielded ops a.tmps) = true then ∀ (K : Act → World → Prop) (Q : Exit → Act → World → Prop), (∀ v w', R v w' → K (a.put o.dst v) w') → o.wp P a w K Q else R undef w
theorem Runs.wpOp {P : Program} {ops : Array Oper} {i : Nat} {o : Oper} {a : Act} {w : World} {R : Value → World → Prop} {K : Act → World → Prop} {Q : Exit → Act → World → Prop} (hi : ops[i]? = some o)
    (h : Runs P ops o a w R) (hk : ∀ v w', R v w' → K (a.put o.dst v) w') : wpOp P ops Q i K a w := by
  unfold Go.wpOp Runs at *
  simp only [hi]
  split
  · rename_i hw
    rw [if_pos hw] at h
    exact .inl (h K Q hk)
  · rename_i hw
    rw [if_neg hw] at h
    exact hk _ _ h
theorem Runs.mono {P : Program} {ops : Array Oper} {o : Oper} {a : Act} {w : World} {R R' : Value → World → Prop} (h : Runs P ops o a w R) (hr : ∀ v w', R v w' → R' v w') : Runs P ops o a w R' := by
  unfold Runs at *
  split
  · rename_i hw
    rw [if_pos hw] at h
    exact fun K Q hk => h K Q fun v w' hv => hk v w' (hr v w' hv)
  · rename_i hw
    rw [if_neg hw] at h
    exact hr _ _ h

section
variable {P : Program} {ops : Array Oper} {Q : Exit → Act → World → Prop} {a0 : Act} {F : Nat → (Nat → Value) → World → Prop} {N : Nat} {pre dead fp : List (List Nat)} {fin : List Nat}

structure DInv (ops : Array Oper) (a0 : Act) (F : Nat → (Nat → Value) → World → Prop) (N : Nat) (dead fp : List (List Nat)) (listed : Array Bool) (a : Act) (w : World) : Prop where
  size : a.tmps.size = N
  defers : a.defers = []
  len : listed.size = ops.size
  closed : Closed ops listed
  facts : ∀ k, k < fp.length → (ops.size ≤ k ∨ listed.getD k false = true) → (∀ e, e < ops.size → listed.getD e false = true → k ∈ dead.getD e [] → k < ops.size ∧ Before ops.toList k e) → F k (sl a) w
  same : ∀ t, (∀ (i : Nat) (o : Oper), ops[i]? = some o → o.dst ≠ some t) → sl a t = sl a0 t

theorem DInv.step (hs : deedOk ops.toList N pre dead fp fin = true) (hfpl : ops.size ≤ fp.length)
    (hfp : ∀ k s s' w, k < fp.length → (∀ t ∈ fp.getD k [], s t = s' t) → F k s w → F k s' w)
    (hop : ∀ (i : Nat) (o : Oper), ops[i]? = some o → ∀ (a : Act) (w : World), a.tmps.size = N → (∀ k ∈ pre.getD i [], F k (sl a) w) →
      Runs P ops o a w fun v w' => F i (upd (sl a) o.dst v) w' ∧ ∀ k, k < fp.length → k ∉ dead.getD i [] → k ≠ i → F k (sl a) w → F k (sl a) w')
    (hpre : ∀ i k, k ∈ pre.getD i [] → k < fp.length)
    {listed : Array Bool} {a : Act} {w : World} (hI : DInv ops a0 F N dead fp listed a w) {i : Nat} {o : Oper} (ho : ops[i]? = some o) (hun : listed.getD i false = false)
    (hdeps : ∀ e ∈ o.after, Region.binds .any e = true → listed.getD e.on false = true) {K : Act → World → Prop}
    (hK : ∀ a' w', DInv ops a0 F N dead fp (listed.setIfInBounds i true) a' w' → K a' w') : wpOp P ops Q i K a w := by
  have hi : i < ops.size := (Array.getElem?_eq_some_iff.1 ho).1
  unfold deedOk at hs
  rw [Bool.and_eq_true] at hs
  have hok := okAll_spec ops.toList 0 hs.1 i o (by simpa using ho)
  rw [Nat.zero_add] at hok
  unfold okOp at hok
  simp only [Bool.and_eq_true] at hok
  obtain ⟨⟨hedge, hpok⟩, hdst⟩ := hok
  have hlen : ops.toList.length = ops.size := by simp
  have hbefl : ∀ j, Before ops.toList i j → listed.getD j false = true := by
    intro j hb
    cases hb with
    | edge h he hb => have : o = _ := Option.some.inj (ho.symm.trans (by simpa using h)); subst this; exact hdeps _ he hb
    | step h he hb hj => have : o = _ := Option.some.inj (ho.symm.trans (by simpa using h)); subst this; exact hI.closed.before hj (hdeps _ he hb)
  have hpref : ∀ k ∈ pre.getD i [], F k (sl a) w := by
    intro k hk
    have h1 := List.all_eq_true.1 hpok k hk
    unfold okPre at h1
    rw [Bool.and_eq_true] at h1
    refine hI.facts k (hpre i k hk) ?_ ?_
    · have h2 := h1.1
      rw [Bool.or_eq_true, decide_eq_true_eq, hlen] at h2
      exact h2.imp id fun h => hbefl k (bef_spec h)
    · intro e he hel hde
      have h2 := List.all_eq_true.1 h1.2 e (List.mem_range.2 (by rw [hlen]; exact he))
      simp only [Bool.or_eq_true, Bool.and_eq_true, Bool.not_eq_true', beq_iff_eq, decide_eq_true_eq] at h2
      rcases h2 with ((h2 | h2) | h2) | h2
      · exact absurd hde (by simpa using h2)
      · subst h2; rw [hun] at hel; cases hel
      · have := hI.closed.before (bef_spec h2) hel
        rw [hun] at this
        cases this
      · exact ⟨by rw [← hlen]; exact h2.1, bef_spec h2.2⟩
  refine (hop i o ho a w hI.size hpref).wpOp ho ?_
  rintro v w' ⟨hFi, hkeep⟩
  refine hK _ _ ?_
  have hdlt : ∀ d, o.dst = some d → d < a.tmps.size := by
    intro d hd
    rw [hd] at hdst
    simp only [Bool.and_eq_true, decide_eq_true_eq] at hdst
    rw [hI.size]
    exact hdst.1
  have hset : ∀ k, k ≠ i → (listed.setIfInBounds i true).getD k false = listed.getD k false := fun k hk => getD_set_ne false (Ne.symm hk)
  have hclosed : Closed ops (listed.setIfInBounds i true) := by
    intro j oj hj hl e he hb
    by_cases hij : j = i
    · subst hij
      have : oj = o := Option.some.inj (hj.symm.trans ho)
      subst this
      exact getD_set_true (hdeps e he hb)
    · rw [hset j hij] at hl
      exact getD_set_true (hI.closed j oj hj hl e he hb)
  refine ⟨by rw [put_size]; exact hI.size, by rw [put_defers]; exact hI.defers, by simpa using hI.len, hclosed, ?_, ?_⟩
  · intro k hk hl hal
    rw [sl_put a o.dst v hdlt]
    by_cases hki : k = i
    · subst hki; exact hFi
    · have hl' : ops.size ≤ k ∨ listed.getD k false = true := hl.imp id (fun h => by rwa [hset k hki] at h)
      have hnodead : k ∉ dead.getD i [] := by
        intro hd
        have h3 := hal i hi (by simp [hI.len, hi]) hd
        rcases hl' with h | h
        · omega
        · have := hI.closed.before h3.2 h
          rw [hun] at this
          cases this
      have hF := hkeep k hk hnodead hki (hI.facts k hk hl' fun e he hel hde => hal e he (getD_set_true hel) hde)
      refine hfp k _ _ w' hk ?_ hF
      intro t ht
      cases hd : o.dst with
      | none => rfl
      | some d =>
        simp only [upd]
        split
        · rename_i htd
          subst htd
          exfalso
          rw [hd] at hdst
          simp only [Bool.and_eq_true, decide_eq_true_eq] at hdst
          have h4 := List.all_eq_true.1 hdst.2 k (List.mem_range.2 hk)
          simp only [Bool.or_eq_true, Bool.and_eq_true, Bool.not_eq_true', beq_iff_eq, decide_eq_true_eq, hlen] at h4
          rcases h4 with (h4 | h4) | ⟨h4, h5⟩
          · exact absurd ht (by simpa using h4)
          · exact hnodead (by simpa using h4)
          · rcases h5 with h5 | h5
            · exact hki h5
            · rcases hl' with h | h
              · omega
              · have := hI.closed.before (bef_spec h5) h
                rw [hun] at this
                cases this
        · rfl
  · intro t ht
    rw [sl_put a o.dst v hdlt, ← hI.same t ht]
    cases hd : o.dst with
    | none => rfl
    | some d =>
      simp only [upd]
      rw [if_neg]
      rintro rfl
      exact ht i o ho hd

theorem DInv.final (hs : deedOk ops.toList N pre dead fp fin = true) (hfpl : ops.size ≤ fp.length) {listed : Array Bool} {a : Act} {w : World} (hI : DInv ops a0 F N dead fp listed a w) (hall : ∀ i, i < ops.size → listed.getD i false = true) :
    ∀ k ∈ fin, F k (sl a) w := by
  intro k hk
  unfold deedOk at hs
  rw [Bool.and_eq_true] at hs
  have h1 := List.all_eq_true.1 hs.2 k hk
  rw [Bool.and_eq_true, decide_eq_true_eq] at h1
  have hlen : ops.toList.length = ops.size := by simp
  refine hI.facts k h1.1 ?_ ?_
  · rcases Nat.lt_or_ge k ops.size with h | h
    · exact .inr (hall k h)
    · exact .inl h
  · intro e he _ hde
    have h2 := h1.2
    unfold okFin at h2
    have h3 := List.all_eq_true.1 h2 e (List.mem_range.2 (by rw [hlen]; exact he))
    simp only [Bool.or_eq_true, Bool.and_eq_true, Bool.not_eq_true', decide_eq_true_eq] at h3
    rcases h3 with h3 | h3
    · exact absurd hde (by simpa using h3)
    · exact ⟨by rw [← hlen]; exact h3.1, bef_spec h3.2⟩

theorem edges_lower (hs : deedOk ops.toList N pre dead fp fin = true) {i : Nat} {o : Oper} (ho : ops[i]? = some o) : ∀ e ∈ o.after, Region.binds .any e = true → e.on < i := by
  intro e he hb
  unfold deedOk at hs
  rw [Bool.and_eq_true] at hs
  have hok := okAll_spec ops.toList 0 hs.1 i o (by simpa using ho)
  rw [Nat.zero_add] at hok
  unfold okOp at hok
  simp only [Bool.and_eq_true] at hok
  have h1 := List.all_eq_true.1 hok.1.1 e (by simpa using he)
  rw [hb] at h1
  simpa using h1

def left (n : Nat) (listed : Array Bool) : Nat := ((List.range n).filter fun i => !listed.getD i true).length
theorem left_set {n i : Nat} {listed : Array Bool} (hl : listed.size = n) (hi : i < n) (hun : listed.getD i false = false) : left n (listed.setIfInBounds i true) < left n listed := by
  unfold left
  have hsub : ∀ (l : List Nat), (l.filter fun j => !(listed.setIfInBounds i true).getD j true).length ≤ (l.filter fun j => !listed.getD j true).length ∧ (i ∈ l → (l.filter fun j => !(listed.setIfInBounds i true).getD j true).length < (l.filter fun j => !listed.getD j true).length) := by
    intro l
    induction l with
    | nil => simp
    | cons x l ih =>
      by_cases hx : x = i
      · subst hx
        have h1 : (listed.setIfInBounds x true).getD x true = true := by simp [hl, hi]
        have h2 : listed.getD x true = false := by
          have : x < listed.size := by omega
          simp [this] at hun ⊢
          exact hun
        rw [List.filter_cons, List.filter_cons, h1, h2]
        simp only [Bool.not_true, Bool.not_false, if_true, List.length_cons]
        exact ⟨Nat.le_succ_of_le ih.1, fun _ => Nat.lt_succ_of_le ih.1⟩
      · have h1 : (listed.setIfInBounds i true).getD x true = listed.getD x true := getD_set_ne true (Ne.symm hx)
        rw [List.filter_cons, List.filter_cons, h1]
        cases listed.getD x true
        · simp only [Bool.not_false, if_true, List.length_cons]
          refine ⟨by have := ih.1; omega, fun h => ?_⟩
          have := ih.2 (by rcases List.mem_cons.1 h with h | h; exact absurd h.symm hx; exact h)
          omega
        · simp only [Bool.not_true]
          refine ⟨ih.1, fun h => ih.2 (by rcases List.mem_cons.1 h with h | h; exact absurd h.symm hx; exact h)⟩
  exact (hsub _).2 (List.mem_range.2 hi)
theorem none_left (hlow : ∀ (i : Nat) (o : Oper), ops[i]? = some o → ∀ e ∈ o.after, Region.binds .any e = true → e.on < i) {listed : Array Bool} (hl : listed.size = ops.size) (hr : Region.ready .any ops listed = []) :
    ∀ i, i < ops.size → listed.getD i false = true := by
  intro i
  induction i using Nat.strongRecOn with
  | _ i ih =>
    intro hi
    cases h : listed.getD i false with
    | true => rfl
    | false =>
      exfalso
      have ho : ops[i]? = some ops[i] := Array.getElem?_eq_getElem hi
      have : i ∈ Region.ready .any ops listed := mem_ready.2 ⟨by have h' : i < listed.size := by omega
                                                                 simp [h'] at h ⊢; exact h, _, ho, fun e he hb => ih e.on (hlow i _ ho e he hb) (by have := hlow i _ ho e he hb; omega)⟩
      rw [hr] at this
      cases this

theorem deed_any (hs : deedOk ops.toList N pre dead fp fin = true) (hfpl : ops.size ≤ fp.length) (hpre : ∀ i k, k ∈ pre.getD i [] → k < fp.length)
    (hfp : ∀ k s s' w, k < fp.length → (∀ t ∈ fp.getD k [], s t = s' t) → F k s w → F k s' w)
    (hop : ∀ (i : Nat) (o : Oper), ops[i]? = some o → ∀ (a : Act) (w : World), a.tmps.size = N → (∀ k ∈ pre.getD i [], F k (sl a) w) →
      Runs P ops o a w fun v w' => F i (upd (sl a) o.dst v) w' ∧ ∀ k, k < fp.length → k ∉ dead.getD i [] → k ≠ i → F k (sl a) w → F k (sl a) w')
    (hQ : ∀ (a : Act) (w : World), a.tmps.size = N → a.defers = [] → (∀ t, (∀ (i : Nat) (o : Oper), ops[i]? = some o → o.dst ≠ some t) → sl a t = sl a0 t) → (∀ k ∈ fin, F k (sl a) w) → Q .normal a w) :
    ∀ (fuel : Nat) (listed : Array Bool) (a : Act) (w : World), left ops.size listed ≤ fuel → DInv ops a0 F N dead fp listed a w → wpAny P .any ops Q fuel listed a w := by
  have hend : ∀ (listed : Array Bool) (a : Act) (w : World), DInv ops a0 F N dead fp listed a w → Region.ready .any ops listed = [] → Q .normal a w := fun listed a w hI hr =>
    hQ a w hI.size hI.defers hI.same (hI.final hs hfpl (none_left (fun i o ho => edges_lower hs ho) hI.len hr))
  intro fuel
  induction fuel with
  | zero =>
    intro listed a w hl hI
    have hr : Region.ready .any ops listed = [] := by
      cases hr : Region.ready .any ops listed with
      | nil => rfl
      | cons i r =>
        exfalso
        have hi : i ∈ Region.ready .any ops listed := by rw [hr]; simp
        obtain ⟨h0, o, ho, _⟩ := mem_ready.1 hi
        have : i ∈ (List.range ops.size).filter fun i => !listed.getD i true := List.mem_filter.2 ⟨List.mem_range.2 (Array.getElem?_eq_some_iff.1 ho).1, by simp [h0]⟩
        unfold left at hl
        have := List.length_pos_of_mem this
        omega
    exact ⟨hr, hend listed a w hI hr⟩
  | succ fuel ih =>
    intro listed a w hl hI
    refine ⟨hend listed a w hI, fun i hi => ?_⟩
    obtain ⟨h0, o, ho, hall⟩ := mem_ready.1 hi
    have hlt : i < ops.size := (Array.getElem?_eq_some_iff.1 ho).1
    have hun : listed.getD i false = false := by
      have h' : i < listed.size := by rw [hI.len]; exact hlt
      simp [h'] at h0 ⊢
      exact h0
    exact hI.step hs hfpl hfp hop hpre ho hun hall fun a' w' hI' => ih _ a' w' (by have := left_set hI.len hlt hun; omega) hI'

theorem deed_list (hs : deedOk ops.toList N pre dead fp fin = true) (hfpl : ops.size ≤ fp.length) (hpre : ∀ i k, k ∈ pre.getD i [] → k < fp.length)
    (hfp : ∀ k s s' w, k < fp.length → (∀ t ∈ fp.getD k [], s t = s' t) → F k s w → F k s' w)
    (hop : ∀ (i : Nat) (o : Oper), ops[i]? = some o → ∀ (a : Act) (w : World), a.tmps.size = N → (∀ k ∈ pre.getD i [], F k (sl a) w) →
      Runs P ops o a w fun v w' => F i (upd (sl a) o.dst v) w' ∧ ∀ k, k < fp.length → k ∉ dead.getD i [] → k ≠ i → F k (sl a) w → F k (sl a) w')
    (hQ : ∀ (a : Act) (w : World), a.tmps.size = N → a.defers = [] → (∀ t, (∀ (i : Nat) (o : Oper), ops[i]? = some o → o.dst ≠ some t) → sl a t = sl a0 t) → (∀ k ∈ fin, F k (sl a) w) → Q .normal a w) :
    ∀ (m i : Nat) (listed : Array Bool) (a : Act) (w : World), i + m = ops.size → (∀ j, j < ops.size → listed.getD j false = decide (j < i)) → DInv ops a0 F N dead fp listed a w → wpOps P ops Q (List.range' i m) a w := by
  intro m
  induction m with
  | zero =>
    intro i listed a w him hl hI
    exact hQ a w hI.size hI.defers hI.same (hI.final hs hfpl fun j hj => by rw [hl j hj]; simp; omega)
  | succ m ih =>
    intro i listed a w him hl hI
    have hi : i < ops.size := by omega
    have ho : ops[i]? = some ops[i] := Array.getElem?_eq_getElem hi
    rw [List.range'_succ, wpOps_cons]
    refine hI.step hs hfpl hfp hop hpre ho (by rw [hl i hi]; simp) (fun e he hb => ?_) fun a' w' hI' => ih (i + 1) _ a' w' (by omega) (fun j hj => ?_) hI'
    · have := edges_lower hs ho e he hb
      rw [hl e.on (by omega)]
      simpa using this
    · by_cases hji : j = i
      · subst hji
        simp [hI.len, hj]
      · rw [getD_set_ne false (Ne.symm hji), hl j hj]
        simp only [decide_eq_decide]
        omega

/-- THE RULE. F: what each operation leaves (numbers below ops.size), and what is known before (from ops.size on); pre: what an operation needs; dead: what it destroys; fp: the slots that a fact speaks of; fin: what is wanted at the end. -/
theorem region_deed {id : Nat} {draw : Bool} {w0 : World} (F : Nat → (Nat → Value) → World → Prop) (N : Nat) (pre dead fp : List (List Nat)) (fin : List Nat) (hm : P.follows .mixedOrders = true)
    (hn : a0.tmps.size = N) (hd : a0.defers = []) (hs : deedOk ops.toList N pre dead fp fin = true) (hfpl : ops.size ≤ fp.length) (hpre : ∀ i k, k ∈ pre.getD i [] → k < fp.length)
    (h0 : ∀ k, ops.size ≤ k → k < fp.length → F k (sl a0) w0 ∧ F k (sl a0) { w0 with drawn := w0.drawn + 1 })
    (hfp : ∀ k s s' w, k < fp.length → (∀ t ∈ fp.getD k [], s t = s' t) → F k s w → F k s' w)
    (hop : ∀ (i : Nat) (o : Oper), ops[i]? = some o → ∀ (a : Act) (w : World), a.tmps.size = N → (∀ k ∈ pre.getD i [], F k (sl a) w) →
      Runs P ops o a w fun v w' => F i (upd (sl a) o.dst v) w' ∧ ∀ k, k < fp.length → k ∉ dead.getD i [] → k ≠ i → F k (sl a) w → F k (sl a) w')
    (hQ : ∀ (a : Act) (w : World), a.tmps.size = N → a.defers = [] → (∀ t, (∀ (i : Nat) (o : Oper), ops[i]? = some o → o.dst ≠ some t) → sl a t = sl a0 t) → (∀ k ∈ fin, F k (sl a) w) → Q .normal a w) :
    (Code.region id ops draw).wp P Q a0 w0 := by
  have hI : ∀ w, (∀ k, ops.size ≤ k → k < fp.length → F k (sl a0) w) → DInv ops a0 F N dead fp (Array.replicate ops.size false) a0 w := by
    intro w hw
    have hno : ∀ j, (Array.replicate ops.size false).getD j false = false := by
      intro j
      rcases Nat.lt_or_ge j ops.size with h | h <;> simp [h]
    refine ⟨hn, hd, by simp, fun i o _ hl => ?_, fun k hk hl _ => ?_, fun t _ => rfl⟩
    · rw [hno] at hl; cases hl
    · rcases hl with h | h
      · exact hw k h hk
      · rw [hno] at h; cases h
  cases draw with
  | true =>
    refine wp_region_any hm ?_
    refine deed_any hs hfpl hpre hfp hop hQ ops.size _ a0 _ ?_ (hI _ fun k h1 h2 => (h0 k h1 h2).2)
    unfold left
    exact Nat.le_trans (List.length_filter_le _ _) (by simp)
  | false =>
    refine wp_region ?_
    rw [List.range_eq_range']
    exact deed_list hs hfpl hpre hfp hop hQ ops.size 0 (Array.replicate ops.size false) a0 w0 (by omega) (fun j hj => by simp [hj]) (hI _ fun k h1 h2 => (h0 k h1 h2).1)
end
/-! ### A region that is walked in its own order: each operation behind all ahead of it -/
def chainGo : Nat → List Oper → List Oper
  | _, [] => []
  | i, o :: r => { o with after := ((List.range i).map fun j => ({ on := j, ground := .data } : Edge)).toArray } :: chainGo (i + 1) r
def chain (l : List Oper) : List Oper := chainGo 0 l
theorem chainGo_get : ∀ (l : List Oper) (k i : Nat), (chainGo k l)[i]? = l[i]?.map fun o => { o with after := ((List.range (k + i)).map fun j => ({ on := j, ground := .data } : Edge)).toArray }
  | [], _, _ => by simp [chainGo]
  | o :: r, k, 0 => by simp [chainGo]
  | o :: r, k, i + 1 => by
    simp only [chainGo, List.getElem?_cons_succ]
    rw [chainGo_get r (k + 1) i, show k + 1 + i = k + (i + 1) by omega]
theorem chain_get (l : List Oper) (i : Nat) : (chain l).toArray[i]? = l.toArray[i]?.map fun o => { o with after := ((List.range i).map fun j => ({ on := j, ground := .data } : Edge)).toArray } := by
  have := chainGo_get l 0 i
  rw [Nat.zero_add] at this
  simpa [chain] using this
theorem chain_size (l : List Oper) : (chain l).toArray.size = l.toArray.size := by
  have : ∀ (l : List Oper) (k : Nat), (chainGo k l).length = l.length := by
    intro l
    induction l with
    | nil => intro k; rfl
    | cons o r ih => intro k; simp [chainGo, ih]
  simpa [chain] using this l 0
theorem yielded_chain (l : List Oper) (tm : Array Value) : yielded (chain l).toArray tm = yielded l.toArray tm := by
  funext j
  unfold yielded
  rw [chain_get]
  cases l.toArray[j]? <;> rfl
theorem wpOps_chain {P : Program} {l : List Oper} {Q : Exit → Act → World → Prop} : ∀ (r : List Nat) (a : Act) (w : World), wpOps P (chain l).toArray Q r a w → wpOps P l.toArray Q r a w
  | [], _, _, h => h
  | i :: r, a, w, h => by
    rw [wpOps_cons] at h ⊢
    unfold wpOp at h ⊢
    rw [chain_get, yielded_chain] at h
    cases ho : l.toArray[i]? with
    | none => rw [ho] at h; exact wpOps_chain r _ _ h
    | some o =>
      rw [ho] at h
      simp only [Option.map_some] at h
      have hg : ∀ (f : Array Edge), Region.wanted { o with after := f } (yielded l.toArray a.tmps) = Region.wanted o (yielded l.toArray a.tmps) := fun _ => rfl
      rw [hg] at h
      simp only
      by_cases hw : Region.wanted o (yielded l.toArray a.tmps) = true
      · rw [if_pos hw] at h ⊢
        rcases h with h | h
        · exact .inl (Oper.wp_mono (fun a w => wpOps_chain r a w) h)
        · exact .inr h
      · rw [if_neg hw] at h ⊢
        exact wpOps_chain r _ _ h
theorem region_deedC {P : Program} {l : List Oper} {Q : Exit → Act → World → Prop} {a0 : Act} {id : Nat} {w0 : World} (F : Nat → (Nat → Value) → World → Prop) (N : Nat) (pre dead fp : List (List Nat)) (fin : List Nat)
    (hn : a0.tmps.size = N) (hd : a0.defers = []) (hs : deedOk (chain l) N pre dead fp fin = true) (hfpl : l.length ≤ fp.length) (hpre : ∀ i k, k ∈ pre.getD i [] → k < fp.length)
    (h0 : ∀ k, l.length ≤ k → k < fp.length → F k (sl a0) w0 ∧ F k (sl a0) { w0 with drawn := w0.drawn + 1 })
    (hfp : ∀ k s s' w, k < fp.length → (∀ t ∈ fp.getD k [], s t = s' t) → F k s w → F k s' w)
    (hop : ∀ (i : Nat) (o : Oper), l.toArray[i]? = some o → ∀ (a : Act) (w : World), a.tmps.size = N → (∀ k ∈ pre.getD i [], F k (sl a) w) →
      Runs P l.toArray o a w fun v w' => F i (upd (sl a) o.dst v) w' ∧ ∀ k, k < fp.length → k ∉ dead.getD i [] → k ≠ i → F k (sl a) w → F k (sl a) w')
    (hQ : ∀ (a : Act) (w : World), a.tmps.size = N → a.defers = [] → (∀ k ∈ fin, F k (sl a) w) → Q .normal a w) :
    (Code.region id l.toArray false).wp P Q a0 w0 := by
  have hsz := chain_size l
  have hl : l.toArray.size = l.length := by simp
  have hno : ∀ j, (Array.replicate (chain l).toArray.size false).getD j false = false := by
    intro j
    rw [Array.getD_eq_getD_getElem?, Array.getElem?_replicate]
    split <;> rfl
  refine wp_region (wpOps_chain _ _ _ ?_)
  rw [List.range_eq_range', ← hsz]
  refine deed_list (a0 := a0) (F := F) (N := N) (pre := pre) (dead := dead) (fp := fp) (fin := fin) (by simpa using hs) (by rw [hsz, hl]; exact hfpl) hpre hfp ?_ (fun a w h1 h2 _ h3 => hQ a w h1 h2 h3) (chain l).toArray.size 0 (Array.replicate (chain l).toArray.size false) a0 w0 (by omega) (fun j hj => by rw [hno]; simp) ?_
  · intro i o ho a w hN hp
    rw [chain_get] at ho
    obtain ⟨o', ho', rfl⟩ := Option.map_eq_some_iff.1 ho
    have h1 := hop i o' ho' a w hN hp
    unfold Runs at h1 ⊢
    rw [yielded_chain]
    exact h1
  · refine ⟨hn, hd, by simp, fun i o _ hl => ?_, fun k hk hl2 _ => ?_, fun t _ => rfl⟩
    · rw [hno] at hl
      cases hl
    · rcases hl2 with h | h
      · exact (h0 k (by rw [hsz, hl] at h; exact h) hk).1
      · rw [hno] at h; cases h
end Go.Proofs.Ytideafkiaipnoaa.Deed

set_option linter.unusedVariables false
set_option linter.unusedSimpArgs false
namespace Go.Proofs.YtideafkiaipnoaaW.PrintWords
open Go.RowKit

structure Drawn0 (w w' : World) : Prop where mk :: (out : ∃ n, w' = w.drewN n)
theorem Drawn0.refl (w : World) : Drawn0 w w := ⟨⟨0, rfl⟩⟩
theorem Drawn0.step {w w' : World} (h : Drawn0 w w') (n : Nat) : Drawn0 w (w'.drewN n) := by
  obtain ⟨m, rfl⟩ := h
  exact ⟨⟨m + n, World.drewN_drewN ..⟩⟩
theorem Drawn0.grown {w w' : World} (h : Drawn0 w w') : Grown w w' := by
  obtain ⟨n, rfl⟩ := h
  induction n with
  | zero => exact Grown.refl _
  | succ n ih => rw [← World.drew_drewN]; exact Grown.drew ih
theorem Drawn0.below {w w' : World} (h : Drawn0 w w') : Below w.heap.size w w' := by
  obtain ⟨n, rfl⟩ := h
  induction n with
  | zero => exact Below.refl _ _
  | succ n ih => rw [← World.drew_drewN]; exact ih.drew


def rd (xs : List Int) (i : Int) : Int := xs.getD i.toNat 0
theorem below_alloc {w W : World} (h : Below w.heap.size w W) (o : Obj) : Below w.heap.size w (W.alloc o) := h.alloc h.size o
theorem below_drew {B : Nat} {w W : World} (h : Below B w W) : Below B w W.drew := ⟨h.os, h.tape, h.output, h.size, h.block⟩
theorem below_then {B : Nat} {w w1 w2 : World} (h : Below B w w1) (hB : B ≤ w1.heap.size) (k : Below w1.heap.size w1 w2) : Below B w w2 :=
  h.trans ⟨k.os, k.tape, k.output, k.size, fun i hi => k.block i (Nat.lt_of_lt_of_le hi hB)⟩
theorem grown_of_below {w w1 : World} (h : Below w.heap.size w w1) (row : Option Nat) : w.grownBy w1 row := ⟨h.os, h.tape, h.output, h.size, fun i hi _ => h.block i hi⟩
theorem pw_cell_below {w w1 : World} (h : Below w.heap.size w w1) {a : Addr} {v : Value} (hc : w.cell? a = some v) : w1.cell? a = some v := (h.cell (World.block_lt_of_cell? w a hc)).trans hc

def ReadsInt (w : World) (k : IntKind) (A : Option Addr) (n : Nat) (xs : List Int) : Prop :=
  xs.length = n ∧ n ≤ 9223372036854775807 ∧ (0 < n → ∃ ad, A = some ad ∧ ∀ j, j < n → w.cell? (ad.add j) = some (.int k (xs.getD j 0)))
theorem ReadsInt.at_ {w : World} {k : IntKind} {A : Option Addr} {n : Nat} {xs : List Int} (h : ReadsInt w k A n xs) (i : Int) (h0 : 0 ≤ i) (h1 : i < n) : ∃ ad, A = some ad ∧ w.cell? (ad.add i.toNat) = some (.int k (rd xs i)) := by
  obtain ⟨ad, e, hc⟩ := h.2.2 (by omega)
  exact ⟨ad, e, hc _ (by omega)⟩
theorem ReadsInt.below {w w1 : World} {k : IntKind} {A : Option Addr} {n : Nat} {xs : List Int} (h : ReadsInt w k A n xs) (hb : Below w.heap.size w w1) : ReadsInt w1 k A n xs :=
  ⟨h.1, h.2.1, fun hn => by
    obtain ⟨ad, e, hc⟩ := h.2.2 hn
    exact ⟨ad, e, fun j hj => pw_cell_below hb (hc j hj)⟩⟩

theorem own_nil (W : World) (base : Nat) (e : TypeId) (size : Nat) : W.ownsRow base e size (.slice none 0 0) 0 [] := ⟨by simp, .inl ⟨rfl, rfl⟩⟩
theorem own_base {w : World} {base : Nat} {e : TypeId} {size n : Nat} {v : Value} {xs : List Value} (h : w.ownsRow base e size v n xs) (k : Nat) (hk : v.ownBlock = some k) : base ≤ k := by
  rcases h.2 with ⟨rfl, _⟩ | ⟨g, cap, cur, rfl, hb, _⟩
  · simp [Value.ownBlock] at hk
  · have : g = k := by simpa [Value.ownBlock] using hk
    omega
theorem own_lt {w : World} {base : Nat} {e : TypeId} {size n : Nat} {v : Value} {xs : List Value} (h : w.ownsRow base e size v n xs) (k : Nat) (hk : v.ownBlock = some k) : k < w.heap.size := by
  rcases h.2 with ⟨rfl, _⟩ | ⟨g, cap, cur, rfl, hb, hh, _⟩
  · simp [Value.ownBlock] at hk
  · have : g = k := by simpa [Value.ownBlock] using hk
    subst this
    exact (Array.getElem?_eq_some_iff.1 hh).1
theorem pw_own_below {w w1 : World} {base : Nat} {e : TypeId} {size n : Nat} {v : Value} {xs : List Value} (h : w.ownsRow base e size v n xs) (hb : Below w.heap.size w w1) : w1.ownsRow base e size v n xs :=
  h.kept (grown_of_below hb none) (by cases v.ownBlock <;> simp)
theorem own_other {w w1 : World} {base : Nat} {e : TypeId} {size n : Nat} {v : Value} {xs : List Value} (h : w.ownsRow base e size v n xs) {row : Option Nat} (hg : w.grownBy w1 row) (hne : v.ownBlock = none ∨ v.ownBlock ≠ row) : w1.ownsRow base e size v n xs := h.kept hg hne
theorem own_slice {w : World} {base n : Nat} {e : TypeId} {size : Nat} {v : Value} {xs : List Value} (h : w.ownsRow base e size v n xs) : ∃ A c, v = .slice A n c := by
  rcases h.2 with ⟨rfl, rfl⟩ | ⟨g, cap, cur, rfl, _⟩
  · exact ⟨none, 0, rfl⟩
  · exact ⟨_, cap, rfl⟩
section
variable {P : Program} {ops : Array Oper} {rest : List Oper} {o : Oper} {a : Act} {Q : Exit → Act → World → Prop}

end

section
variable {P : Program}
end
section
variable {P : Program} {ops : Array Oper} {rest : List Oper} {o : Oper} {a : Act} {Q : Exit → Act → World → Prop}
end

def LeO {α : Type} (a b : Option α) : Prop := ∀ r, a = some r → b = some r
theorem LeO.refl {α : Type} (a : Option α) : LeO a a := fun _ h => h
theorem LeO.none {α : Type} (b : Option α) : LeO Option.none b := fun _ h => by cases h
theorem LeO.trans {α : Type} {a b c : Option α} (h : LeO a b) (k : LeO b c) : LeO a c := fun r hr => k r (h r hr)
theorem LeO.bind {α β : Type} {a a' : Option α} {f f' : α → Option β} (h : LeO a a') (k : ∀ x, LeO (f x) (f' x)) : LeO (a.bind f) (a'.bind f') := by
  intro r hr
  obtain ⟨x, hx, hf⟩ := Option.bind_eq_some_iff.1 hr
  exact Option.bind_eq_some_iff.2 ⟨x, h x hx, k x r hf⟩
theorem LeO.map {α β : Type} {a a' : Option α} (f : α → β) (h : LeO a a') : LeO (a.map f) (a'.map f) := by
  intro r hr
  obtain ⟨x, hx, hf⟩ := Option.map_eq_some_iff.1 hr
  exact Option.map_eq_some_iff.2 ⟨x, h x hx, hf⟩
theorem more_rounds {α : Type} {g : Nat → Option α} (h : ∀ k, LeO (g k) (g (k + 1))) (k : Nat) : ∀ j, LeO (g k) (g (k + j))
  | 0 => LeO.refl _
  | j + 1 => (more_rounds h k j).trans (h (k + j))
theorem at_rounds {α : Type} {g : Nat → Option α} (h : ∀ k, LeO (g k) (g (k + 1))) {k k' : Nat} (hk : k ≤ k') {r : α} (hr : g k = some r) : g k' = some r := by
  have := more_rounds h k (k' - k) r hr
  rwa [Nat.add_sub_cancel' hk] at this
def Reps {α : Type} (R : α → List Value → Prop) (size : Nat) (ps : List α) (cs : List Value) : Prop :=
  cs.length = ps.length * size ∧ ∀ j p, ps[j]? = some p → R p ((cs.drop (j * size)).take size)
theorem Reps.none {α : Type} (R : α → List Value → Prop) (size : Nat) : Reps R size [] [] := ⟨by simp, fun j p h => by simp at h⟩
theorem Reps.snoc {α : Type} {R : α → List Value → Prop} {size : Nat} {ps : List α} {cs c : List Value} {p : α} (h : Reps R size ps cs) (hp : R p c) (hc : c.length = size) : Reps R size (ps ++ [p]) (cs ++ c) := by
  refine ⟨by rw [List.length_append, h.1, hc, List.length_append, List.length_singleton, Nat.add_mul, Nat.one_mul], fun j q hq => ?_⟩
  rcases Nat.lt_or_ge j ps.length with hj | hj
  · rw [List.getElem?_append_left hj] at hq
    have h1 : j * size + size ≤ cs.length := by rw [h.1, ← Nat.succ_mul]; exact Nat.mul_le_mul_right _ hj
    have h2 := h.2 j q hq
    rw [List.drop_append_of_le_length (by omega), List.take_append_of_le_length (by rw [List.length_drop]; omega)]
    exact h2
  · have hj' : j = ps.length := by
      have := (List.getElem?_eq_some_iff.1 hq).1
      rw [List.length_append, List.length_singleton] at this
      omega
    subst hj'
    have hq' : p = q := by simpa using hq
    subst hq'
    rw [← h.1, List.drop_left, ← hc, List.take_length]
    exact hp
theorem Reps.imp_ {α : Type} {R R' : α → List Value → Prop} {size : Nat} {ps : List α} {cs : List Value} (h : Reps R size ps cs) (hR : ∀ p c, R p c → R' p c) : Reps R' size ps cs := ⟨h.1, fun j p hj => hR _ _ (h.2 j p hj)⟩

def ReadsRow {α : Type} (R : α → List Value → Prop) (size : Nat) (w : World) (A : Option Addr) (n : Nat) (ps : List α) : Prop :=
  ps.length = n ∧ n ≤ 9223372036854775807 ∧ (0 < n → ∃ ad, A = some ad ∧ ∀ j p, ps[j]? = some p → ∃ c, c.length = size ∧ R p c ∧ ∀ i u, c[i]? = some u → w.cell? (ad.add (j * size + i)) = some u)
theorem ReadsRow.get_ {α : Type} {R : α → List Value → Prop} {size : Nat} {w : World} {A : Option Addr} {n : Nat} {ps : List α} (h : ReadsRow R size w A n ps) (d : α) (i : Int) (h0 : 0 ≤ i) (h1 : i < n) :
    ∃ ad c, A = some ad ∧ c.length = size ∧ R (ps.getD i.toNat d) c ∧ ∀ j u, c[j]? = some u → w.cell? (ad.add (i.toNat * size + j)) = some u := by
  obtain ⟨ad, e, hc⟩ := h.2.2 (by omega)
  have hl : i.toNat < ps.length := by have := h.1; omega
  obtain ⟨c, hs, hr, hcell⟩ := hc i.toNat _ (List.getElem?_eq_getElem hl)
  refine ⟨ad, c, e, hs, ?_, hcell⟩
  rw [List.getD_eq_getElem?_getD, List.getElem?_eq_getElem hl]
  exact hr
theorem ReadsRow.imp_ {α : Type} {R R' : α → List Value → Prop} {size : Nat} {w w1 : World} {A : Option Addr} {n : Nat} {ps : List α} (h : ReadsRow R size w A n ps) (hb : Below w.heap.size w w1) (hR : ∀ p c, R p c → R' p c) : ReadsRow R' size w1 A n ps :=
  ⟨h.1, h.2.1, fun hn => by
    obtain ⟨ad, e, hc⟩ := h.2.2 hn
    refine ⟨ad, e, fun j p hj => ?_⟩
    obtain ⟨c, hs, hr, hcell⟩ := hc j p hj
    exact ⟨c, hs, hR _ _ hr, fun i u hu => pw_cell_below hb (hcell i u hu)⟩⟩
theorem own_reads_row {α : Type} {R : α → List Value → Prop} {w : World} {base n size : Nat} {e : TypeId} {v : Value} {ps : List α} {cs : List Value} (h : w.ownsRow base e size v n cs) (hR : Reps R size ps cs) (hn : ps.length = n) :
    ∃ A c, v = .slice A n c ∧ ReadsRow R size w A n ps := by
  rcases Nat.eq_zero_or_pos n with h0 | h0
  · rcases h.2 with ⟨rfl, rfl⟩ | ⟨g, cap, cur, rfl, _⟩
    · exact ⟨none, 0, rfl, hn, by omega, fun hp => absurd hp (by omega)⟩
    · exact ⟨_, cap, rfl, hn, by omega, fun hp => absurd hp (by omega)⟩
  · obtain ⟨g, cap, rfl, _, _⟩ := h.form h0
    have hm : n ≤ 9223372036854775807 := by
      rcases h.2 with ⟨_, h1⟩ | ⟨g', cap', cur, he, _, _, h1, h2, _⟩
      · omega
      · simp only [maxLen] at h2
        omega
    refine ⟨_, cap, rfl, hn, hm, fun _ => ⟨_, rfl, fun j p hj => ⟨(cs.drop (j * size)).take size, ?_, hR.2 j p hj, fun i u hu => ?_⟩⟩⟩
    · have hjl := (List.getElem?_eq_some_iff.1 hj).1
      have h1 : j * size + size ≤ cs.length := by rw [hR.1, ← Nat.succ_mul]; exact Nat.mul_le_mul_right _ hjl
      rw [List.length_take, List.length_drop]
      omega
    · refine h.cells (g := g) rfl _ u ?_
      rw [List.getElem?_take] at hu
      split at hu
      · rw [List.getElem?_drop] at hu
        exact hu
      · cases hu
section
variable {P : Program} {ops : Array Oper} {rest : List Oper} {o : Oper} {a : Act} {Q : Exit → Act → World → Prop}
theorem print_append_cells {w0 W : World} (base : Nat) (hgd : o.guard = none) (s x : Operand) (t e : TypeId) (z : Value) (size bytes : Nat)
    (ho : o.op = .call { callee := .builtin .append, args := #[s, x], argTypes := #[t, t] })
    (ht : P.underlying t = some (.slice e)) (hinfo : (P.info? e).map (fun i => (i.zero, i.size, i.bytes)) = some (some z, size, bytes)) (hz : z.cells.size = size) (hs0 : 0 < size) (hb0 : 0 < bytes)
    (v : Value) (n : Nat) (xs ys : List Value) (hs : a.eval s = v) (hx : a.eval x = .slice (some ⟨W.heap.size, 0, none⟩) 1 1) (hys : ys.length = size) (h1 : ∀ u ∈ ys, u.oneCell' = true)
    (HO : W.ownsRow base e size v n xs) (HB : Below base w0 W) (hbase : base ≤ W.heap.size) (hl : (n + 1) * bytes ≤ 140737488355328)
    (h : ∀ v1 w1, w1.ownsRow base e size v1 (n + 1) (xs ++ ys) → Below base w0 w1 → W.grownBy w1 v.ownBlock → (v1.ownBlock = v.ownBlock ∨ ∃ b, v1.ownBlock = some b ∧ W.heap.size ≤ b) → wpList P ops Q rest (a.put o.dst v1) w1) :
    wpList P ops Q (o :: rest) a (W.alloc (.cells ys.toArray e)) := by
  obtain ⟨i0, hi, hzz⟩ := Option.map_eq_some_iff.1 hinfo
  simp only [Prod.mk.injEq] at hzz
  obtain ⟨hz0, hz1, hz2⟩ := hzz
  have hlen : n + 1 ≤ 140737488355328 := Nat.le_trans (Nat.le_mul_of_pos_right _ hb0) hl
  refine wpList_append_own_at (W.alloc (.cells ys.toArray e)) hgd s x t ho base e i0 z size bytes ht hi hz0 hz1 hz2 hz hs0 v n xs hs (HO.alloc _) ⟨W.heap.size, 0, none⟩ 1 1 ys hx (by rw [hys]; simp)
    (by simpa using World.news_of_block (cs := ys.toArray) (t := e) (fr := (0, 0)) (heap_alloc_new W (.cells ys.toArray e))) h1 (by simp only [maxLen]; omega) hl (by simp; omega) ?_
  intro v1 w1 hown hg _ hat
  refine h v1 w1 hown ((HB.alloc hbase _).grown hg (by simp; omega) (own_base HO)) (World.grownBy.trans (World.grownBy_alloc W _ _) hg) ?_
  rcases hat with hat | hat
  · exact .inl hat
  · exact .inr ⟨_, hat, by simp⟩
end

theorem own_ne {w : World} {base : Nat} {e t : TypeId} {size n g : Nat} {v : Value} {xs : List Value} {cs : Array Value} (h : w.ownsRow base e size v n xs) (hg : w.heap[g]? = some (.cells cs t (0, 0))) (hne : e ≠ t) : some g ≠ v.ownBlock := by
  rcases h.2 with ⟨rfl, _⟩ | ⟨g', cap, cur, rfl, _, hh, _⟩
  · simp [Value.ownBlock]
  · intro he
    have : g = g' := by simpa [Value.ownBlock] using he
    subst this
    rw [hg] at hh
    injection hh with hh
    injection hh with _ ht
    exact hne ht.symm
theorem own_setCell {w : World} {base : Nat} {e : TypeId} {size n : Nat} {v : Value} {xs : List Value} (h : w.ownsRow base e size v n xs) {p : Addr} (hne : some p.block ≠ v.ownBlock) (u : Value) : (w.setCell p u).ownsRow base e size v n xs := by
  obtain ⟨h1, h2⟩ := h
  refine ⟨h1, ?_⟩
  rcases h2 with h2 | ⟨g, cap, cur, rfl, hg, hh, r⟩
  · exact .inl h2
  · exact .inr ⟨g, cap, cur, rfl, hg, by rw [Below.heap_setCell _ _ _ _ (fun e => hne (by rw [e]; rfl))]; exact hh, r⟩
theorem blk_set {w : World} {g : Nat} {t : TypeId} {cs : Array Value} (h : w.heap[g]? = some (.cells cs t (0, 0))) (i : Nat) (u : Value) : (w.setCell ⟨g, i, none⟩ u).heap[g]? = some (.cells (cs.setIfInBounds i u) t (0, 0)) := by
  simp [World.setCell, Array.getElem?_modify, h]
theorem blk_lt {w : World} {g : Nat} {o : Obj} (h : w.heap[g]? = some o) : g < w.heap.size := (Array.getElem?_eq_some_iff.1 h).1
theorem blk_cell {w : World} {g : Nat} {t : TypeId} {cs : Array Value} (h : w.heap[g]? = some (.cells cs t (0, 0))) (i : Nat) : w.cell? ⟨g, i, none⟩ = cs[i]? := cell_of_row w g i cs t (0, 0) h
theorem blk_frozen {w : World} {g : Nat} {t : TypeId} {cs : Array Value} (h : w.heap[g]? = some (.cells cs t (0, 0))) (i : Nat) : w.frozen? ⟨g, i, none⟩ = false := by simp [World.frozen?, h]
def KeepBut (w w' : World) (g : Nat) (row : Option Nat) : Prop := w.heap.size ≤ w'.heap.size ∧ ∀ i, i < w.heap.size → i ≠ g → some i ≠ row → w'.heap[i]? = w.heap[i]?
theorem KeepBut.refl (w : World) (g : Nat) (row : Option Nat) : KeepBut w w g row := ⟨Nat.le_refl _, fun _ _ _ _ => rfl⟩
theorem KeepBut.of_below {w w1 : World} (h : Below w.heap.size w w1) (g : Nat) (row : Option Nat) : KeepBut w w1 g row := ⟨h.size, fun i hi _ _ => h.block i hi⟩
theorem KeepBut.set_ {w w1 : World} {g : Nat} {row : Option Nat} (h : KeepBut w w1 g row) (j : Nat) (u : Value) : KeepBut w (w1.setCell ⟨g, j, none⟩ u) g row :=
  ⟨by simpa [World.setCell] using h.1, fun i hi hg hr => (Below.heap_setCell w1 ⟨g, j, none⟩ u i hg).trans (h.2 i hi hg hr)⟩
theorem KeepBut.trans {w w1 w2 : World} {g : Nat} {row row1 : Option Nat} (h : KeepBut w w1 g row) (k : KeepBut w1 w2 g row1) (hr : row1 = row ∨ ∃ b, row1 = some b ∧ w.heap.size ≤ b) : KeepBut w w2 g row :=
  ⟨Nat.le_trans h.1 k.1, fun i hi hg hn => by
    refine (k.2 i (Nat.lt_of_lt_of_le hi h.1) hg ?_).trans (h.2 i hi hg hn)
    rcases hr with rfl | ⟨b, rfl, hb⟩
    · exact hn
    · intro e
      injection e with e
      omega⟩
theorem KeepBut.blk {w w1 : World} {g g' : Nat} {row : Option Nat} {o : Obj} (h : KeepBut w w1 g row) (hb : w.heap[g']? = some o) (hg : g' ≠ g) (hr : some g' ≠ row) : w1.heap[g']? = some o := (h.2 g' (blk_lt hb) hg hr).trans hb
theorem KeepBut.own {w w1 : World} {g : Nat} {row : Option Nat} {base : Nat} {e : TypeId} {size n : Nat} {v : Value} {xs : List Value} (h : KeepBut w w1 g row) (ho : w.ownsRow base e size v n xs) (hg : v.ownBlock ≠ some g) (hr : v.ownBlock = none ∨ v.ownBlock ≠ row) : w1.ownsRow base e size v n xs := by
  obtain ⟨h1, h2⟩ := ho
  refine ⟨h1, ?_⟩
  rcases h2 with h2 | ⟨b, cap, cur, rfl, hb, hh, r⟩
  · exact .inl h2
  · refine .inr ⟨b, cap, cur, rfl, hb, h.blk hh ?_ ?_, r⟩
    · intro e
      exact hg (by rw [← e]; rfl)
    · rcases hr with hr | hr
      · simp [Value.ownBlock] at hr
      · exact hr
def Ev {α : Type} (g : Nat → Option α) (r : α) : Prop := ∃ K, ∀ k, K ≤ k → g k = some r
theorem Ev.of {α : Type} {g : Nat → Option α} {r : α} (hg : ∀ k, LeO (g k) (g (k + 1))) {k : Nat} (h : g k = some r) : Ev g r := ⟨k, fun _ hk => at_rounds hg hk h⟩
theorem Ev.bind {α β : Type} {g : Nat → Option α} {f : Nat → α → Option β} {a : α} {r : β} (h : Ev g a) (k : Ev (fun n => f n a) r) : Ev (fun n => (g n).bind (f n)) r := by
  obtain ⟨K, h⟩ := h
  obtain ⟨K', k⟩ := k
  refine ⟨max K K', fun n hn => ?_⟩
  have h1 := h n (by omega)
  have h2 := k n (by omega)
  simp only [h1, Option.bind_some]
  exact h2
theorem Ev.step {α : Type} {g f : Nat → Option α} {r : α} (h : ∀ k, g (k + 1) = f k) (k : Ev f r) : Ev g r := by
  obtain ⟨K, k⟩ := k
  refine ⟨K + 1, fun n hn => ?_⟩
  obtain ⟨m, rfl⟩ : ∃ m, n = m + 1 := ⟨n - 1, by omega⟩
  rw [h]
  exact k m (by omega)
theorem Ev.congr {α : Type} {g f : Nat → Option α} {r : α} (h : ∀ k, g k = f k) (k : Ev f r) : Ev g r := by
  obtain ⟨K, k⟩ := k
  exact ⟨K, fun n hn => (h n).trans (k n hn)⟩
section
variable {P : Program} {ops : Array Oper} {o : Oper} {a : Act} {Q : Exit → Act → World → Prop} {K : Act → World → Prop}
end
theorem own_weaken {w : World} {base base' : Nat} {e : TypeId} {size n : Nat} {v : Value} {xs : List Value} (h : w.ownsRow base e size v n xs) (hb : base' ≤ base) : w.ownsRow base' e size v n xs := by
  obtain ⟨h1, h2⟩ := h
  refine ⟨h1, ?_⟩
  rcases h2 with h2 | ⟨g, cap, cur, rfl, hg, r⟩
  · exact .inl h2
  · exact .inr ⟨g, cap, cur, rfl, Nat.le_trans hb hg, r⟩
section
variable {α : Type} {enc : α → Value} {d : α}
def rdOf (d : α) (xs : List α) (i : Int) : α := xs.getD i.toNat d
def ReadsOf (enc : α → Value) (d : α) (w : World) (A : Option Addr) (n : Nat) (xs : List α) : Prop :=
  xs.length = n ∧ n ≤ 9223372036854775807 ∧ (0 < n → ∃ ad, A = some ad ∧ ∀ j, j < n → w.cell? (ad.add j) = some (enc (xs.getD j d)))
theorem ReadsOf.at_ {w : World} {A : Option Addr} {n : Nat} {xs : List α} (h : ReadsOf enc d w A n xs) (i : Int) (h0 : 0 ≤ i) (h1 : i < n) : ∃ ad, A = some ad ∧ w.cell? (ad.add i.toNat) = some (enc (rdOf d xs i)) := by
  obtain ⟨ad, e, hc⟩ := h.2.2 (by omega)
  exact ⟨ad, e, hc _ (by omega)⟩
theorem ReadsOf.below {w w1 : World} {A : Option Addr} {n : Nat} {xs : List α} (h : ReadsOf enc d w A n xs) (hb : Below w.heap.size w w1) : ReadsOf enc d w1 A n xs :=
  ⟨h.1, h.2.1, fun hn => by
    obtain ⟨ad, e, hc⟩ := h.2.2 hn
    exact ⟨ad, e, fun j hj => pw_cell_below hb (hc j hj)⟩⟩
end
section
variable {α : Type} {P : Program} {ops : Array Oper} {rest : List Oper} {o : Oper} {a : Act} {Q : Exit → Act → World → Prop}
end

def NeRow (v v' : Value) : Prop := ∀ k, v.ownBlock = some k → v'.ownBlock ≠ some k
theorem ne_symm {v v' : Value} (h : NeRow v v') : NeRow v' v := fun k hk hk' => h k hk' hk
theorem ne_other {v v' : Value} (h : NeRow v v') : v'.ownBlock = none ∨ v'.ownBlock ≠ v.ownBlock := by
  cases hv : v'.ownBlock with
  | none => exact .inl rfl
  | some k => exact .inr fun e => h k e.symm hv
theorem blk_below {w w1 : World} {g : Nat} {o : Obj} (h : w.heap[g]? = some o) (hb : Below w.heap.size w w1) : w1.heap[g]? = some o := (hb.block g (blk_lt h)).trans h
section
variable {P : Program}
end
theorem own_le {w : World} {base n m c size : Nat} {e : TypeId} {A : Option Addr} {xs : List Value} (h : w.ownsRow base e size (.slice A m c) n xs) : m ≤ c := by
  rcases h.2 with ⟨he, _⟩ | ⟨g, cap, cur, he, _, _, hnc, _⟩
  · injection he with _ h2 h3
    omega
  · injection he with _ h2 h3
    omega
def OwnRow {α : Type} (R : α → List Value → Prop) (e : TypeId) (size : Nat) (w : World) (base : Nat) (v : Value) (ps : List α) : Prop :=
  ∃ inner, w.ownsRow base e size v ps.length inner ∧ Reps R size ps inner
section
variable {α : Type} {R R' : α → List Value → Prop} {e : TypeId} {size : Nat} {w w1 : World} {base : Nat} {v : Value} {ps : List α}
theorem OwnRow.none_ (R : α → List Value → Prop) (e : TypeId) (size : Nat) (w : World) (base : Nat) : OwnRow R e size w base (.slice none 0 0) [] := ⟨[], own_nil _ _ _ _, Reps.none _ _⟩
theorem OwnRow.imp_ (h : OwnRow R e size w base v ps) (hR : ∀ p c, R p c → R' p c) : OwnRow R' e size w base v ps := by
  obtain ⟨inner, ho, hr⟩ := h
  exact ⟨inner, ho, hr.imp_ hR⟩
theorem OwnRow.below (h : OwnRow R e size w base v ps) (hb : Below w.heap.size w w1) : OwnRow R e size w1 base v ps := by
  obtain ⟨inner, ho, hr⟩ := h
  exact ⟨inner, pw_own_below ho hb, hr⟩
theorem OwnRow.other (h : OwnRow R e size w base v ps) {row : Option Nat} (hg : w.grownBy w1 row) (hne : v.ownBlock = none ∨ v.ownBlock ≠ row) : OwnRow R e size w1 base v ps := by
  obtain ⟨inner, ho, hr⟩ := h
  exact ⟨inner, own_other ho hg hne, hr⟩
theorem OwnRow.set_ (h : OwnRow R e size w base v ps) {g : Nat} {t : TypeId} {cells : Array Value} (hb : w.heap[g]? = some (.cells cells t (0, 0))) (ht : e ≠ t) (j : Nat) (u : Value) : OwnRow R e size (w.setCell ⟨g, j, none⟩ u) base v ps := by
  obtain ⟨inner, ho, hr⟩ := h
  exact ⟨inner, own_setCell ho (own_ne ho hb ht) u, hr⟩
theorem OwnRow.slice_ (h : OwnRow R e size w base v ps) : ∃ A c, v = .slice A ps.length c ∧ ps.length ≤ c := by
  obtain ⟨inner, ho, hr⟩ := h
  obtain ⟨A, c, rfl⟩ := own_slice ho
  exact ⟨A, c, rfl, own_le ho⟩
theorem OwnRow.reads (h : OwnRow R e size w base v ps) : ∃ A c, v = .slice A ps.length c ∧ ps.length ≤ c ∧ ReadsRow R size w A ps.length ps := by
  obtain ⟨inner, ho, hr⟩ := h
  obtain ⟨A, c, rfl, hrow⟩ := own_reads_row ho hr rfl
  exact ⟨A, c, rfl, own_le ho, hrow⟩
theorem OwnRow.ne_block (h : OwnRow R e size w base v ps) {g : Nat} {t : TypeId} {cells : Array Value} (hb : w.heap[g]? = some (.cells cells t (0, 0))) (ht : e ≠ t) : some g ≠ v.ownBlock := by
  obtain ⟨inner, ho, hr⟩ := h
  exact own_ne ho hb ht
theorem OwnRow.lit (W : World) (base : Nat) {inner : List Value} (hr : Reps R size ps inner) (hb : base ≤ W.heap.size) (hm : ps.length ≤ 9223372036854775807) :
    OwnRow R e size (W.alloc (.cells inner.toArray e)) base (.slice (some ⟨W.heap.size, 0, none⟩) ps.length ps.length) ps := by
  have h := World.ownsRow_lit (base := base) (e := e) (size := size) W inner.toArray ps.length hb (by simpa [maxLen] using hm) (by simpa using hr.1)
  exact ⟨inner, by simpa using h, hr⟩
end
section
variable {P : Program} {ops : Array Oper} {rest : List Oper} {o : Oper} {a : Act} {Q : Exit → Act → World → Prop} {α : Type} {R : α → List Value → Prop}
theorem OwnRow.append {w0 W : World} (base : Nat) (hgd : o.guard = none) (s x : Operand) (t e : TypeId) (z : Value) (size bytes : Nat)
    (ho : o.op = .call { callee := .builtin .append, args := #[s, x], argTypes := #[t, t] })
    (ht : P.underlying t = some (.slice e)) (hinfo : (P.info? e).map (fun i => (i.zero, i.size, i.bytes)) = some (some z, size, bytes)) (hz : z.cells.size = size) (hs0 : 0 < size) (hb0 : 0 < bytes)
    (v : Value) (ps : List α) (p : α) (cs : List Value) (hs : a.eval s = v) (hx : a.eval x = .slice (some ⟨W.heap.size, 0, none⟩) 1 1) (hp : R p cs) (hcs : cs.length = size) (h1 : ∀ u ∈ cs, u.oneCell' = true)
    (HO : OwnRow R e size W base v ps) (HB : Below base w0 W) (hbase : base ≤ W.heap.size) (hl : (ps.length + 1) * bytes ≤ 140737488355328)
    (h : ∀ v1 w1, OwnRow R e size w1 base v1 (ps ++ [p]) → Below base w0 w1 → W.grownBy w1 v.ownBlock → (v1.ownBlock = v.ownBlock ∨ ∃ b, v1.ownBlock = some b ∧ W.heap.size ≤ b) → wpList P ops Q rest (a.put o.dst v1) w1) :
    wpList P ops Q (o :: rest) a (W.alloc (.cells cs.toArray e)) := by
  obtain ⟨inner, hown, hr⟩ := HO
  refine print_append_cells base hgd s x t e z size bytes ho ht hinfo hz hs0 hb0 v ps.length inner cs hs hx hcs h1 hown HB hbase hl ?_
  intro v1 w1 hown1 hb1 hg1 hat1
  exact h v1 w1 ⟨inner ++ cs, by rw [List.length_append, List.length_singleton]; exact hown1, hr.snoc hp hcs⟩ hb1 hg1 hat1
end
section
variable {P : Program} {ops : Array Oper} {o : Oper} {a : Act} {Q : Exit → Act → World → Prop} {K : Act → World → Prop} {α : Type} {R : α → List Value → Prop}
end
section
variable {α : Type} {P : Program}
theorem ReadsOf.len_ {enc : α → Value} {d : α} {w : World} {A : Option Addr} {n : Nat} {xs : List α} (h : ReadsOf enc d w A n xs) : ReadsOf enc d w A xs.length xs := by rw [h.1]; exact h
end

section
variable {P : Program} {ops : Array Oper} {rest : List Oper} {o : Oper} {a : Act} {Q : Exit → Act → World → Prop}
end
structure Kd (α : Type) where
  sz : Nat
  E : List Nat
  K : World → α → List Value → Prop
  M : World → Nat → (Nat → Prop) → α → List Value → Prop
  K_len : ∀ {w x cs}, K w x cs → cs.length = sz
  K_one : ∀ {w x cs}, K w x cs → ∀ u ∈ cs, u.oneCell' = true
  K_below : ∀ {w w1 : World} {x cs}, Below w.heap.size w w1 → K w x cs → K w1 x cs
  K_of_M : ∀ {w base ok x cs}, M w base ok x cs → K w x cs
  M_mono : ∀ {w base ok ok' x cs}, (∀ k, ok k → ok' k) → M w base ok x cs → M w base ok' x cs
  M_bound : ∀ {w : World} {base ok x cs}, M w base ok x cs → M w base (fun k => ok k ∧ base ≤ k ∧ k < w.heap.size ∧ ∃ q, q ∈ E ∧ ∃ cells, w.heap[k]? = some (.cells cells q (0, 0))) x cs
  M_move : ∀ {w w1 : World} {base ok x cs}, (∀ k, ok k → w1.heap[k]? = w.heap[k]?) → M w base ok x cs → M w1 base ok x cs
  M_lower : ∀ {w base base' ok x cs}, base' ≤ base → M w base ok x cs → M w base' ok x cs

theorem own_move {w w1 : World} {base : Nat} {e : TypeId} {size n : Nat} {v : Value} {xs : List Value} (h : w.ownsRow base e size v n xs) (hm : ∀ k, v.ownBlock = some k → w1.heap[k]? = w.heap[k]?) : w1.ownsRow base e size v n xs := by
  obtain ⟨h1, h2⟩ := h
  refine ⟨h1, ?_⟩
  rcases h2 with h2 | ⟨g, cap, cur, rfl, hg, hh, r⟩
  · exact .inl h2
  · exact .inr ⟨g, cap, cur, rfl, hg, (hm g (by simp [Value.ownBlock])).trans hh, r⟩
theorem own_typed {w : World} {base : Nat} {e : TypeId} {size n : Nat} {v : Value} {xs : List Value} (h : w.ownsRow base e size v n xs) (k : Nat) (hk : v.ownBlock = some k) : ∃ cells, w.heap[k]? = some (.cells cells e (0, 0)) := by
  rcases h.2 with ⟨rfl, _⟩ | ⟨g, cap, cur, rfl, hg, hh, r⟩
  · simp [Value.ownBlock] at hk
  · have : g = k := by simpa [Value.ownBlock] using hk
    subst this
    exact ⟨cur, hh⟩

namespace Kd
def C {α : Type} (d : Kd α) (w : World) (A : Option Addr) (n : Nat) (xs : List α) : Prop := ReadsRow (d.K w) d.sz w A n xs
def R {α : Type} (d : Kd α) (e : Nat) (w : World) (base : Nat) (ok : Nat → Prop) (v : Value) (xs : List α) : Prop :=
  (∀ k, v.ownBlock = some k → ok k) ∧ OwnRow (d.M w base (fun k => ok k ∧ some k ≠ v.ownBlock)) e d.sz w base v xs
section
variable {α : Type} {d : Kd α} {e : Nat} {w w1 : World} {base : Nat} {ok ok' : Nat → Prop} {v : Value} {xs : List α}
theorem C_below {A : Option Addr} {n : Nat} (h : d.C w A n xs) (hb : Below w.heap.size w w1) : d.C w1 A n xs := ReadsRow.imp_ h hb (fun _ _ hp => d.K_below hb hp)
theorem R_mono (h : d.R e w base ok v xs) (hok : ∀ k, ok k → ok' k) : d.R e w base ok' v xs := ⟨fun k hk => hok k (h.1 k hk), h.2.imp_ (fun _ _ hp => d.M_mono (fun k hk => ⟨hok k hk.1, hk.2⟩) hp)⟩
theorem R_bound (h : d.R e w base ok v xs) : d.R e w base (fun k => ok k ∧ base ≤ k ∧ k < w.heap.size ∧ ∃ q, q ∈ e :: d.E ∧ ∃ cells, w.heap[k]? = some (.cells cells q (0, 0))) v xs := by
  obtain ⟨h0, inner, ho, hr⟩ := h
  refine ⟨fun k hk => ?_, inner, ho, hr.imp_ (fun _ _ hp => d.M_mono (fun k hk => ?_) (d.M_bound hp))⟩
  · obtain ⟨cells, hc⟩ := own_typed ho k hk
    exact ⟨h0 k hk, own_base ho k hk, own_lt ho k hk, e, List.mem_cons_self, cells, hc⟩
  · obtain ⟨⟨h1, h2⟩, h3, h4, q, hq, hc⟩ := hk
    exact ⟨⟨h1, h3, h4, q, List.mem_cons_of_mem _ hq, hc⟩, h2⟩
theorem R_move (h : d.R e w base ok v xs) (hm : ∀ k, ok k → w1.heap[k]? = w.heap[k]?) : d.R e w1 base ok v xs := by
  obtain ⟨h0, inner, ho, hr⟩ := h
  exact ⟨h0, inner, own_move ho (fun k hk => hm k (h0 k hk)), hr.imp_ (fun _ _ hp => d.M_move (fun k hk => hm k hk.1) hp)⟩
theorem R_lower {base' : Nat} (h : d.R e w base ok v xs) (hb : base' ≤ base) : d.R e w base' ok v xs := by
  obtain ⟨h0, inner, ho, hr⟩ := h
  exact ⟨h0, inner, own_weaken ho hb, hr.imp_ (fun _ _ hp => d.M_lower hb hp)⟩
theorem R_reads (h : d.R e w base ok v xs) : ∃ A c, v = .slice A xs.length c ∧ xs.length ≤ c ∧ d.C w A xs.length xs := by
  obtain ⟨A, c, he, hl, hr⟩ := OwnRow.reads h.2
  exact ⟨A, c, he, hl, hr.imp_ (Below.refl _ _) (fun _ _ hp => d.K_of_M hp)⟩
end

def scalar {α : Type} (enc : α → Value) (h1 : ∀ x, (enc x).oneCell' = true) : Kd α where
  sz := 1
  E := []
  K := fun _ x cs => cs = [enc x]
  M := fun _ _ _ x cs => cs = [enc x]
  K_len := fun h => by rw [h]; rfl
  K_one := fun h u hu => by
    rw [h] at hu
    rw [List.mem_singleton.1 hu]
    exact h1 _
  K_below := fun _ h => h
  K_of_M := fun h => h
  M_mono := fun _ h => h
  M_bound := fun h => h
  M_move := fun _ h => h
  M_lower := fun _ h => h
def int (k : IntKind) : Kd Int := scalar (Value.int k) (fun _ => rfl)
def bool : Kd Bool := scalar Value.bool (fun _ => rfl)
def string : Kd ByteArray := scalar Value.string (fun _ => rfl)
def slice {α : Type} (e : Nat) (d : Kd α) : Kd (List α) where
  sz := 1
  E := e :: d.E
  K := fun w xs cs => ∃ A c, cs = [.slice A xs.length c] ∧ xs.length ≤ c ∧ d.C w A xs.length xs
  M := fun w base ok xs cs => ∃ v, cs = [v] ∧ d.R e w base ok v xs
  K_len := by
    rintro w x cs ⟨A, c, rfl, _⟩
    rfl
  K_one := by
    rintro w x cs ⟨A, c, rfl, _⟩ u hu
    rw [List.mem_singleton.1 hu]
    rfl
  K_below := by
    rintro w w1 x cs hb ⟨A, c, rfl, hl, hr⟩
    exact ⟨A, c, rfl, hl, C_below hr hb⟩
  K_of_M := by
    rintro w base ok x cs ⟨v, rfl, h⟩
    obtain ⟨A, c, rfl, hl, hr⟩ := R_reads h
    exact ⟨A, c, rfl, hl, hr⟩
  M_mono := by
    rintro w base ok ok' x cs hok ⟨v, rfl, h⟩
    exact ⟨v, rfl, R_mono h hok⟩
  M_bound := by
    rintro w base ok x cs ⟨v, rfl, h⟩
    exact ⟨v, rfl, R_bound h⟩
  M_move := by
    rintro w w1 base ok x cs hm ⟨v, rfl, h⟩
    exact ⟨v, rfl, R_move h hm⟩
  M_lower := by
    rintro w base base' ok x cs hb ⟨v, rfl, h⟩
    exact ⟨v, rfl, R_lower h hb⟩
def pair {α β : Type} (a : Kd α) (b : Kd β) : Kd (α × β) where
  sz := a.sz + b.sz
  E := a.E ++ b.E
  K := fun w x cs => ∃ c0 c1, cs = c0 ++ c1 ∧ a.K w x.1 c0 ∧ b.K w x.2 c1
  M := fun w base ok x cs => ∃ c0 c1, cs = c0 ++ c1 ∧ a.M w base ok x.1 c0 ∧ b.M w base ok x.2 c1
  K_len := by
    rintro w x cs ⟨c0, c1, rfl, h0, h1⟩
    rw [List.length_append, a.K_len h0, b.K_len h1]
  K_one := by
    rintro w x cs ⟨c0, c1, rfl, h0, h1⟩ u hu
    rcases List.mem_append.1 hu with hu | hu
    · exact a.K_one h0 u hu
    · exact b.K_one h1 u hu
  K_below := by
    rintro w w1 x cs hb ⟨c0, c1, rfl, h0, h1⟩
    exact ⟨c0, c1, rfl, a.K_below hb h0, b.K_below hb h1⟩
  K_of_M := by
    rintro w base ok x cs ⟨c0, c1, rfl, h0, h1⟩
    exact ⟨c0, c1, rfl, a.K_of_M h0, b.K_of_M h1⟩
  M_mono := by
    rintro w base ok ok' x cs hok ⟨c0, c1, rfl, h0, h1⟩
    exact ⟨c0, c1, rfl, a.M_mono hok h0, b.M_mono hok h1⟩
  M_bound := by
    rintro w base ok x cs ⟨c0, c1, rfl, h0, h1⟩
    refine ⟨c0, c1, rfl, a.M_mono ?_ (a.M_bound h0), b.M_mono ?_ (b.M_bound h1)⟩
    · rintro k ⟨h2, h3, h4, q, hq, hc⟩
      exact ⟨h2, h3, h4, q, List.mem_append_left _ hq, hc⟩
    · rintro k ⟨h2, h3, h4, q, hq, hc⟩
      exact ⟨h2, h3, h4, q, List.mem_append_right _ hq, hc⟩
  M_move := by
    rintro w w1 base ok x cs hm ⟨c0, c1, rfl, h0, h1⟩
    exact ⟨c0, c1, rfl, a.M_move hm h0, b.M_move hm h1⟩
  M_lower := by
    rintro w base base' ok x cs hb ⟨c0, c1, rfl, h0, h1⟩
    exact ⟨c0, c1, rfl, a.M_lower hb h0, b.M_lower hb h1⟩
def bot {α : Type} (sz : Nat) (E : List Nat) : Kd α where
  sz := sz
  E := E
  K := fun _ _ _ => False
  M := fun _ _ _ _ _ => False
  K_len := fun h => h.elim
  K_one := fun h => h.elim
  K_below := fun _ h => h
  K_of_M := fun h => h
  M_mono := fun _ h => h
  M_bound := fun h => h
  M_move := fun _ h => h
  M_lower := fun _ h => h
def upto {α : Type} (F : Kd α → Kd α) (sz : Nat) (E : List Nat) : Nat → Kd α
  | 0 => bot sz E
  | n + 1 => F (upto F sz E n)
section
variable {P : Program} {ops : Array Oper} {rest : List Oper} {o : Oper} {a : Act} {Q : Exit → Act → World → Prop} {α : Type}
end
section
variable {P : Program} {ops : Array Oper} {o : Oper} {a : Act} {Q : Exit → Act → World → Prop} {Kc : Act → World → Prop} {α : Type}
end
end Kd
namespace Kd
section
variable {α : Type} {F : Kd α → Kd α} {sz : Nat} {E : List Nat} {hs : ∀ n, (upto F sz E n).sz = sz} {hE : ∀ n q, q ∈ (upto F sz E n).E → q ∈ E}
end
end Kd
namespace Kd
end Kd
namespace Kd
section
variable {α β : Type} {d : Kd α} {d' : Kd β} {e e' : Nat} {w w1 W : World} {base b b' : Nat} {ok ok' okv oku : Nat → Prop} {v u : Value} {xs : List α} {ys : List β}
end
section
variable {w W : World} {A : Option Addr} {n : Nat}
variable {α : Type} {enc : α → Value} {h1 : ∀ x, (enc x).oneCell' = true} {e base g cap : Nat} {ok : Nat → Prop} {xs : List α}
end

section
variable {P : Program} {ops : Array Oper} {rest : List Oper} {o : Oper} {a : Act} {Q : Exit → Act → World → Prop}
variable {α : Type}
end
end Kd
section
variable {P : Program}
end
def QRow (w : World) (base : Nat) (e : TypeId) (size : Nat) (v : Value) (n : Nat) (xs : List Value) : Prop :=
  xs.length = n * size ∧
  ((n = 0 ∧ ∃ A, v = .slice A 0 0 ∧ ∀ a, A = some a → base ≤ a.block ∧ ∃ cur, w.heap[a.block]? = some (.cells cur e (0, 0))) ∨
   ∃ g off cap cur, v = .slice (some ⟨g, off * size, none⟩) n cap ∧ base ≤ g ∧ w.heap[g]? = some (.cells cur e (0, 0)) ∧ n ≤ cap ∧ off + cap ≤ maxLen ∧ cur.size = (off + cap) * size ∧ (cur.toList.drop (off * size)).take (n * size) = xs)
section
variable {w w1 : World} {base n size : Nat} {e : TypeId} {v : Value} {xs : List Value}
theorem setCells_far {g : Nat} : ∀ (vs : List Value) (o : Nat) {w : World} (k : Nat), k ≠ g → (w.setCells g o vs).heap[k]? = w.heap[k]?
  | [], _, _, _, _ => rfl
  | v :: r, o, w, k, hk => by
    rw [World.setCells, setCells_far r (o + 1) k hk]
    exact Below.heap_setCell w ⟨g, o, none⟩ v k hk
theorem setCells_same (g : Nat) : ∀ (vs : List Value) (o : Nat) (w : World), (w.setCells g o vs).os = w.os ∧ (w.setCells g o vs).tape = w.tape ∧ (w.setCells g o vs).output = w.output ∧ (w.setCells g o vs).heap.size = w.heap.size
  | [], _, _ => ⟨rfl, rfl, rfl, rfl⟩
  | v :: r, o, w => by
    obtain ⟨h1, h2, h3, h4⟩ := setCells_same g r (o + 1) (w.setCell ⟨g, o, none⟩ v)
    rw [World.setCells]
    exact ⟨h1, h2, h3, by rw [h4]; simp [World.setCell]⟩
theorem setCells_row {g : Nat} {e : TypeId} : ∀ (vs : List Value) (o : Nat) (w : World) (cur : Array Value), w.heap[g]? = some (.cells cur e (0, 0)) → o + vs.length ≤ cur.size →
    ∃ cur', (w.setCells g o vs).heap[g]? = some (.cells cur' e (0, 0)) ∧ cur'.size = cur.size ∧ cur'.toList = cur.toList.take o ++ vs ++ cur.toList.drop (o + vs.length)
  | [], o, w, cur, h, _ => ⟨cur, h, rfl, by simp⟩
  | v :: r, o, w, cur, h, hl => by
    have h2 := blk_set h o v
    simp only [List.length_cons] at hl
    obtain ⟨cur', h3, h4, h5⟩ := setCells_row r (o + 1) (w.setCell ⟨g, o, none⟩ v) _ h2 (by simp; omega)
    refine ⟨cur', h3, by rw [h4]; simp, ?_⟩
    rw [h5, Array.toList_setIfInBounds]
    have ho : o < cur.toList.length := by rw [Array.length_toList]; omega
    rw [List.take_set, List.drop_set_of_lt (by omega)]
    simp only [List.length_cons]
    rw [show o + 1 + r.length = o + (r.length + 1) by omega]
    congr 1
    rw [List.take_succ_eq_append_getElem ho, List.set_append_right _ _ (by rw [List.length_take]; omega)]
    have ho' : o < cur.size := by omega
    simp [Nat.min_eq_left (Nat.le_of_lt ho')]
end
section
variable {P : Program}
end
namespace Kd
def Q {α : Type} (d : Kd α) (e : Nat) (w : World) (base : Nat) (ok : Nat → Prop) (v : Value) (xs : List α) : Prop :=
  (∀ k, v.ownBlock = some k → ok k) ∧ ∃ inner, QRow w base e d.sz v xs.length inner ∧ Reps (d.M w base (fun k => ok k ∧ some k ≠ v.ownBlock)) d.sz xs inner
section
variable {α : Type} {d : Kd α} {e : Nat} {w w1 W : World} {base : Nat} {ok ok' : Nat → Prop} {v : Value} {xs : List α}
end
section
variable {P : Program} {ops : Array Oper} {rest : List Oper} {o : Oper} {a : Act} {Q' : Exit → Act → World → Prop} {Kc : Act → World → Prop} {α : Type}
end
end Kd
namespace Kd
section
variable {α : Type} {d : Kd α} {e e' : Nat} {w w1 W : World} {base : Nat} {ok : Nat → Prop} {u v : Value} {xs : List α}
end
end Kd
namespace Kd
section
variable {α : Type} {d : Kd α} {e base g n cap : Nat} {ok okp : Nat → Prop} {W : World} {xs : List α}
end
end Kd
namespace Kd
section
variable {α : Type} {F : Kd α → Kd α} {sz : Nat} {E : List Nat} {hs : ∀ n, (upto F sz E n).sz = sz} {hE : ∀ n q, q ∈ (upto F sz E n).E → q ∈ E}
end
end Kd
namespace Kd
section
variable {P : Program} {ops : Array Oper} {rest : List Oper} {o : Oper} {a : Act} {Q : Exit → Act → World → Prop} {α : Type}
end
end Kd
namespace Kd
section
variable {P : Program} {ops : Array Oper} {rest : List Oper} {o : Oper} {a : Act} {Q : Exit → Act → World → Prop} {α : Type}
end
end Kd
theorem add_add (a : Addr) (i j : Nat) : (a.add i).add j = a.add (i + j) := by
  unfold Addr.add
  by_cases h1 : i = 0 <;> by_cases h2 : j = 0 <;> simp [h1, h2, Nat.add_assoc]
namespace Kd
section
variable {α : Type} {k : Kd α} {w : World} {A : Option Addr} {xs : List α} {m c : Nat}
end
end Kd
section
variable {P : Program}
end
theorem below_step {w W w2 : World} (h : Below w.heap.size w W) (k : Below W.heap.size W w2) : Below w.heap.size w w2 := below_then h h.size k
theorem ReadsInt.nil (W : World) (k : IntKind) : ReadsInt W k none ([] : List Int).length [] := ⟨rfl, by simp, fun h => absurd h (Nat.lt_irrefl 0)⟩
theorem ReadsInt.drewN {W : World} {k : IntKind} {A : Option Addr} {n : Nat} {xs : List Int} (h : ReadsInt W k A n xs) (m : Nat) : ReadsInt (W.drewN m) k A n xs := h
theorem ReadsOf.nil {α : Type} (enc : α → Value) (d : α) (W : World) : ReadsOf enc d W none ([] : List α).length [] := ⟨rfl, by simp, fun h => absurd h (Nat.lt_irrefl 0)⟩
theorem ReadsOf.drewN {α : Type} {enc : α → Value} {d : α} {W : World} {A : Option Addr} {n : Nat} {xs : List α} (h : ReadsOf enc d W A n xs) (m : Nat) : ReadsOf enc d (W.drewN m) A n xs := h
theorem own_blk {W : World} {base n c : Nat} {e : TypeId} {size g : Nat} {ad : Addr} {xs : List Value} (_ : W.ownsRow base e size (.slice (some ad) n c) n xs) (hne : some g ≠ (Value.slice (some ad) n c).ownBlock) : ad.block ≠ g := by
  rintro rfl
  exact hne (by simp [Value.ownBlock])
namespace Kd
section
variable {α β : Type} {d : Kd α} {d' : Kd β} {e e' base base' n : Nat} {ok ok' : Nat → Prop} {w W w1 W1 : World} {v u : Value} {xs : List α} {ys : List β} {A : Option Addr} {c : Nat}
theorem own_blk {ad : Addr} {g : Nat} (hne : some g ≠ (Value.slice (some ad) n c).ownBlock) : ad.block ≠ g := by
  rintro rfl
  exact hne (by simp [Value.ownBlock])
end
section
variable {α : Type} {enc : α → Value} {h1 : ∀ x, (enc x).oneCell' = true} {w W : World} {A : Option Addr} {n g : Nat} {xs : List α}
end
end Kd
namespace Kd
section
variable {α : Type} {d : Kd α} {e base g : Nat} {ok : Nat → Prop} {w w1 : World} {v : Value} {xs : List α} {o : Obj}
end
end Kd
section
variable {P : Program} {ops : Array Oper} {rest : List Oper} {o : Oper} {a : Act} {Q : Exit → Act → World → Prop}
end
namespace Kd
section
variable {α : Type} {enc : α → Value} {h1 : ∀ x, (enc x).oneCell' = true} {e base g n cap : Nat} {ok : Nat → Prop} {W : World} {xs : List α}
end
end Kd
section
variable {P : Program} {ops : Array Oper} {rest : List Oper} {o : Oper} {a : Act} {Q : Exit → Act → World → Prop}
end
namespace Kd
section
variable {α : Type} {enc : α → Value} {h1 : ∀ x, (enc x).oneCell' = true} {e base g n cap : Nat} {ok : Nat → Prop} {W : World} {xs : List α}
end
end Kd
section
variable {P : Program} {ops : Array Oper} {rest : List Oper} {o : Oper} {a : Act} {Q : Exit → Act → World → Prop} {W : World}
end
section
variable {P : Program} {ops : Array Oper} {o : Oper} {a : Act} {Q : Exit → Act → World → Prop} {Kc : Act → World → Prop}
namespace Kd
variable {α : Type}
end Kd
end
inductive Vals (P : Program) (tmps : Array Value) (w : World) : List ResultVar → List Value → Prop where
  | nil : Vals P tmps w [] []
  | tmp {u : Tmp} {rs : List ResultVar} {vs : List Value} (h : Vals P tmps w rs vs) : Vals P tmps w (.tmp u :: rs) (tmps.getD u undef :: vs)
  | cell {p : Tmp} {ty : TypeId} {rs : List ResultVar} {vs : List Value} (g : Nat) (t : TypeId) (cs : Array Value) (fr : Nat × Nat) (d : TypeDesc)
      (hp : tmps.getD p undef = .pointer (some ⟨g, 0, none⟩)) (hg : w.heap[g]? = some (.cells cs t fr))
      (hu : P.underlying ty = some d) (hd : (match d with | .struct _ | .array _ _ => true | _ => false) = true) (hi : (P.info? ty).map (·.size) = some cs.size)
      (h : Vals P tmps w rs vs) : Vals P tmps w (.cell p ty :: rs) (.agg cs :: vs)
section
variable {P : Program} {tmps : Array Value} {w : World}
theorem vals_run {rs : List ResultVar} {vs : List Value} (hv : Vals P tmps w rs vs) (f : ResultVar → Sem Value) (hf : ∀ u, f (.tmp u) = pure (tmps.getD u undef)) (hc : ∀ a t, f (.cell a t) = (do loadVar t (← asAddr (tmps.getD a undef)))) :
    (rs.mapM f).run P w = .ok vs w := by
  induction hv with
  | nil => simp
  | tmp h ih => simp [List.mapM_cons, hf, ih]
  | cell g t cs fr d hp hg hu hd hi h ih =>
    rw [List.mapM_cons, hc, hp]
    simp [asAddr, run_loadVar_row w g t _ cs fr d hg hu hd hi, ih]
theorem results_list {fn : Func} {rs : List ResultVar} {vs : List Value} (h : fn.results = rs.toArray) (hl : vs.length ≠ 1) (hv : Vals P tmps w rs vs) : (results fn tmps).run P w = .ok (.tuple vs.toArray) w := by
  unfold results
  rw [h, List.mapM_toArray]
  simp only [Sem.run_bind, Sem.run_map]
  rw [vals_run hv]
  · simp [hl]
  · intro u
    rfl
  · intro a t
    rfl
theorem results_single {fn : Func} {r : ResultVar} {v : Value} (h : fn.results = #[r]) (hv : Vals P tmps w [r] [v]) : (results fn tmps).run P w = .ok v w := by
  unfold results
  rw [show fn.results = [r].toArray from h, List.mapM_toArray]
  simp only [Sem.run_bind, Sem.run_map]
  rw [vals_run hv]
  · simp
  · intro u
    rfl
  · intro a t
    rfl
end
namespace Kd
section
variable {P : Program} {α : Type}
end
section
variable {P : Program} {ops : Array Oper} {rest : List Oper} {o : Oper} {a : Act} {Q : Exit → Act → World → Prop} {Kc : Act → World → Prop} {α : Type}
end
end Kd

end Go.Proofs.YtideafkiaipnoaaW.PrintWords

namespace Go.Proofs.YtideafkiaipnoaaW.PrintLast

section
variable {P : Program} {ops : Array Oper} {Q : Exit → Act → World → Prop} {md : Region.Mode} {S : World → Prop} {ds : List Nat}

def ListedClosed (md : Region.Mode) (ops : Array Oper) (listed : Array Bool) : Prop :=
  ∀ j oj, ops[j]? = some oj → listed.getD j false = true → ∀ e ∈ oj.after, Region.binds md e = true → listed.getD e.on false = true

theorem ListedClosed.set {listed : Array Bool} {i : Nat} (h : ListedClosed md ops listed) (hi : i ∈ Region.ready md ops listed) : ListedClosed md ops (listed.setIfInBounds i true) := by
  obtain ⟨_, oi, hoi, hall⟩ := mem_ready.1 hi
  intro j oj hj hl e he hb
  by_cases hij : i = j
  · subst hij
    have : oj = oi := Option.some.inj (hj.symm.trans hoi)
    subst this
    exact getD_set_true (hall e he hb)
  · rw [getD_set_ne false hij] at hl
    exact getD_set_true (h j oj hj hl e he hb)

def wpAnyLast (P : Program) (md : Region.Mode) (ops : Array Oper) (Q : Exit → Act → World → Prop) (S : World → Prop) (ds : List Nat) : Nat → Array Bool → Act → World → Prop
  | 0, listed, a, w => Region.ready md ops listed = [] ∧ Q .normal a w
  | fuel + 1, listed, a, w =>
    (Region.ready md ops listed = [] → Q .normal a w) ∧
    ∀ i ∈ Region.ready md ops listed, wpOp P ops Q i (fun a' w' => (i ∉ ds → S w → S w') ∧ wpAnyLast P md ops Q S ds fuel (listed.setIfInBounds i true) a' w') a w

end

section
variable {P : Program} {ops : Array Oper} {Q : Exit → Act → World → Prop} {md : Region.Mode} {S : World → Prop} {ds : List Nat}

def AllReadyL (P : Program) (md : Region.Mode) (ops : Array Oper) (Q : Exit → Act → World → Prop) (S : World → Prop) (ds : List Nat) (fuel : Nat) (listed : Array Bool) (a : Act) (w : World) (rs : List Nat) : Prop :=
  ∀ i ∈ rs, wpOp P ops Q i (fun a' w' => (i ∉ ds → S w → S w') ∧ wpAnyLast P md ops Q S ds fuel (listed.setIfInBounds i true) a' w') a w
theorem AllReadyL.nil {fuel : Nat} {listed : Array Bool} {a : Act} {w : World} : AllReadyL P md ops Q S ds fuel listed a w [] := fun _ h => by cases h
theorem AllReadyL.cons {fuel : Nat} {listed : Array Bool} {a : Act} {w : World} {i : Nat} {o : Oper} {rs : List Nat} (ho : ops[i]? = some o) (hd : i ∉ ds)
    (h : ∀ K' : Act → World → Prop, Shut (∀ a w, S w → (S w → wpAnyLast P md ops Q S ds fuel (listed.setIfInBounds i true) a w) → K' a w) → if Region.wanted o (yielded ops a.tmps) = true then Oper.wp P o a w K' Q else K' (a.put o.dst undef) w)
    (hs : AllReadyL P md ops Q S ds fuel listed a w rs) : AllReadyL P md ops Q S ds fuel listed a w (i :: rs) := fun j hj => by
  rcases List.mem_cons.1 hj with rfl | hj
  · exact wpOp_step ho (fun K' hK => h K' (fun a w hS hW => hK a w ⟨fun _ _ => hS, hW hS⟩))
  · exact hs j hj
theorem enters_ {f : FuncId} {fn : Func} (hf : P.funcs[f]? = some fn) (hname : (fn.name == "runtime.NumGoroutine") = false) (hb : fn.body.isSome = true) (args : Array Value) (w : World) : (callFunc f args).run P w = .ok (.enter f args) w := by
  have h1 : fn.name ≠ "runtime.NumGoroutine" := by simpa using hname
  obtain ⟨c, hc⟩ := Option.isSome_iff_exists.1 hb
  simp [callFunc, hf, h1, hc]
theorem i64_w (n : Int) : IntKind.i64.wrap n = Go.RowKit.wrap64 n := by unfold Go.RowKit.wrap64; exact IntKind.wrap_i64 n
end
end Go.Proofs.YtideafkiaipnoaaW.PrintLast

namespace Go.Proofs.YtideafkiaipnoaaW.PrintWords
open Go.RowKit
namespace Kd
def tag {α : Type} (f : Nat → Nat) (d : Kd α) : Kd (α × Nat) where
  sz := d.sz
  E := d.E
  K := fun w x cs => d.K w x.1 cs
  M := fun w base ok x cs => d.M w base (fun k => ok k ∧ f k = x.2) x.1 cs
  K_len := fun h => d.K_len h
  K_one := fun h => d.K_one h
  K_below := fun hb h => d.K_below hb h
  K_of_M := fun h => d.K_of_M h
  M_mono := fun hok h => d.M_mono (fun k hk => ⟨hok k hk.1, hk.2⟩) h
  M_bound := fun h => d.M_mono (fun _ hk => ⟨⟨hk.1.1, hk.2⟩, hk.1.2⟩) (d.M_bound h)
  M_move := fun hm h => d.M_move (fun k hk => hm k hk.1) h
  M_lower := fun hb h => d.M_lower hb h
def S {α : Type} (d : Kd α) (e : Nat) (w : World) (base : Nat) (ok : Nat → Prop) (v : Value) (xs : List α) : Prop := ∃ f, (tag f d).R e w base ok v xs.zipIdx
section
variable {α β : Type} {d : Kd α} {d' : Kd β} {e e' : Nat} {w w1 W : World} {base b : Nat} {ok ok' okv oku : Nat → Prop} {u v : Value} {xs : List α} {ys : List β}
end
section
variable {α β : Type} {d : Kd α} {d' : Kd β} {e e' g : Nat} {w w1 W : World} {base b : Nat} {ok ok' okv oku : Nat → Prop} {u v : Value} {xs : List α} {ys : List β}
end
section
variable {P : Program} {ops : Array Oper} {rest : List Oper} {o : Oper} {a : Act} {Q : Exit → Act → World → Prop} {Kc : Act → World → Prop} {α : Type}
end
def gap {α : Type} (f : Nat → Nat) (d : Kd α) (i : Nat) (c : List Value) : Kd (α × Nat) where
  sz := d.sz
  E := d.E
  K := fun w x cs => (x.2 = i → cs = c ∧ cs.length = d.sz ∧ ∀ u ∈ cs, u.oneCell' = true) ∧ (x.2 ≠ i → d.K w x.1 cs)
  M := fun w base ok x cs => (x.2 = i → cs = c ∧ cs.length = d.sz ∧ ∀ u ∈ cs, u.oneCell' = true) ∧ (x.2 ≠ i → d.M w base (fun k => ok k ∧ f k = x.2) x.1 cs)
  K_len := fun {w x cs} h => by
    by_cases hx : x.2 = i
    · exact (h.1 hx).2.1
    · exact d.K_len (h.2 hx)
  K_one := fun {w x cs} h => by
    by_cases hx : x.2 = i
    · exact (h.1 hx).2.2
    · exact d.K_one (h.2 hx)
  K_below := fun hb h => ⟨h.1, fun hx => d.K_below hb (h.2 hx)⟩
  K_of_M := fun h => ⟨h.1, fun hx => d.K_of_M (h.2 hx)⟩
  M_mono := fun hok h => ⟨h.1, fun hx => d.M_mono (fun k hk => ⟨hok k hk.1, hk.2⟩) (h.2 hx)⟩
  M_bound := fun h => ⟨h.1, fun hx => d.M_mono (fun _ hk => ⟨⟨hk.1.1, hk.2⟩, hk.1.2⟩) (d.M_bound (h.2 hx))⟩
  M_move := fun hm h => ⟨h.1, fun hx => d.M_move (fun k hk => hm k hk.1) (h.2 hx)⟩
  M_lower := fun hb h => ⟨h.1, fun hx => d.M_lower hb (h.2 hx)⟩
def H {α : Type} (d : Kd α) (e : Nat) (w : World) (base : Nat) (ok : Nat → Prop) (v : Value) (xs : List α) (i : Int) (oki : Nat → Prop) (c : List Value) : Prop :=
  (∀ k, oki k → ok k) ∧ ∃ f, (gap f d i.toNat c).R e w base (fun k => ok k ∧ ¬ oki k) v xs.zipIdx
section
variable {α β : Type} {d : Kd α} {e e' g n cap : Nat} {w w1 W : World} {base : Nat} {ok ok' oki okp : Nat → Prop} {u v : Value} {xs : List α} {i : Int} {c : List Value}
end
section
variable {P : Program} {ops : Array Oper} {rest : List Oper} {o : Oper} {a : Act} {Q : Exit → Act → World → Prop} {α : Type}
end
end Kd
end Go.Proofs.YtideafkiaipnoaaW.PrintWords

namespace Go.Proofs.YtideafkiaipnoaaW.PrintWords
open Go.RowKit
namespace Kd
structure Heap {α : Type} (d : Kd α) : Prop where
  K : ∀ {w w1 : World} {x : α} {cs : List Value}, (∀ k, k < w.heap.size → w1.heap[k]? = w.heap[k]?) → d.K w x cs → d.K w1 x cs
theorem cell_heap {w w1 : World} (hb : ∀ k, k < w.heap.size → w1.heap[k]? = w.heap[k]?) {a : Addr} {v : Value} (h : w.cell? a = some v) : w1.cell? a = some v := by
  have := hb a.block (World.block_lt_of_cell? w a h)
  simpa [World.cell?, this] using h
theorem Heap.C {α : Type} {d : Kd α} (hd : Heap d) {w w1 : World} {A : Option Addr} {n : Nat} {xs : List α} (hb : ∀ k, k < w.heap.size → w1.heap[k]? = w.heap[k]?) (h : d.C w A n xs) : d.C w1 A n xs :=
  ⟨h.1, h.2.1, fun hn => by
    obtain ⟨ad, e, hc⟩ := h.2.2 hn
    refine ⟨ad, e, fun j p hj => ?_⟩
    obtain ⟨c, hs, hr, hcell⟩ := hc j p hj
    exact ⟨c, hs, hd.K hb hr, fun i u hu => cell_heap hb (hcell i u hu)⟩⟩
section
variable {α : Type} {d : Kd α} {e base g n c : Nat} {ok : Nat → Prop} {w w0 W : World} {A : Option Addr} {xs : List α}
end
end Kd
end Go.Proofs.YtideafkiaipnoaaW.PrintWords

namespace Go.Proofs.YtideafkiaipnoaaW.PrintWords
open Go.RowKit
def Kept (w W : World) (S : Nat → Prop) : Prop := w.heap.size ≤ W.heap.size ∧ ∀ i, i < w.heap.size → ¬ S i → W.heap[i]? = w.heap[i]?
section
variable {w W W2 : World} {S S2 S' : Nat → Prop}
theorem Kept.refl (w : World) (S : Nat → Prop) : Kept w w S := ⟨Nat.le_refl _, fun _ _ _ => rfl⟩
theorem Kept.of_below (h : Below w.heap.size w W) (S : Nat → Prop) : Kept w W S := ⟨h.size, fun i hi _ => h.block i hi⟩
theorem Kept.mono (h : Kept w W S) (hs : ∀ k, S k → S' k) : Kept w W S' := ⟨h.1, fun i hi hn => h.2 i hi (fun hk => hn (hs i hk))⟩
theorem Kept.then_ (h : Kept w W S) (k : Kept W W2 S2) (hs : ∀ k, S2 k → S k ∨ w.heap.size ≤ k) : Kept w W2 S :=
  ⟨Nat.le_trans h.1 k.1, fun i hi hn => (k.2 i (Nat.lt_of_lt_of_le hi h.1) (fun h2 => (hs i h2).elim hn (fun h3 => by omega))).trans (h.2 i hi hn)⟩
theorem Kept.below (h : Kept w W S) (hb : Below W.heap.size W W2) : Kept w W2 S := h.then_ (Kept.of_below hb (fun _ => False)) (fun _ hk => hk.elim)
theorem Kept.alloc (h : Kept w W S) (o : Obj) : Kept w (W.alloc o) S := h.below (below_alloc (Below.refl _ _) o)
theorem Kept.drew (h : Kept w W S) : Kept w W.drew S := h
theorem Kept.drewN (h : Kept w W S) (m : Nat) : Kept w (W.drewN m) S := h
theorem Kept.setCell (h : Kept w W S) {p : Addr} (hp : S p.block ∨ w.heap.size ≤ p.block) (u : Value) : Kept w (W.setCell p u) S :=
  h.then_ (S2 := fun k => k = p.block) ⟨by simp [World.setCell], fun i _ hn => Below.heap_setCell W p u i hn⟩ (fun k hk => by rw [hk]; exact hp)
end
namespace Kd
section
variable {α : Type} {d : Kd α} {e base n c : Nat} {ok oki S S2 : Nat → Prop} {w w0 W W1 W2 : World} {v : Value} {A : Option Addr} {xs : List α} {i : Int} {cs : List Value}
end
end Kd
end Go.Proofs.YtideafkiaipnoaaW.PrintWords

/- Single operations, as the region's rule wants them. -/
namespace Go.Proofs.Ytideafkiaipnoaa.Deed
set_option linter.unusedVariables false
set_option linter.unusedSimpArgs false
open Go Go.RowKit Go.Proofs.YtideafkiaipnoaaW.PrintWords

/-- A value that is there only where the guard lets it. -/
def gv (g : Bool) (v : Value) : Value := if g then v else undef
section
variable {P : Program} {ops : Array Oper} {o : Oper} {a : Act} {w w' : World} {R : Value → World → Prop}
theorem wanted_none (h : o.guard = none) : Region.wanted o (yielded ops a.tmps) = true := by simp [Region.wanted, h]
theorem yielded_of {j : Nat} {d : Tmp} {b : Bool} (hd : (ops[j]?).bind (·.dst) = some d) (h : sl a d = .bool b) : yielded ops a.tmps j = some b := by
  unfold yielded
  rw [hd]
  have hlt : a.tmps[d]? = some (.bool b) := by
    unfold sl at h
    rw [Array.getD_eq_getD_getElem?] at h
    cases h' : a.tmps[d]? with
    | none => rw [h'] at h; simp [undef] at h
    | some v => rw [h'] at h; simpa using h
  simp [hlt]
theorem yielded_un {j : Nat} {d : Tmp} (hd : (ops[j]?).bind (·.dst) = some d) (h : sl a d = undef) : yielded ops a.tmps j = none := by
  unfold yielded
  rw [hd]
  unfold sl at h
  rw [Array.getD_eq_getD_getElem?] at h
  cases h' : a.tmps[d]? with
  | none => simp [h']
  | some v =>
    rw [h'] at h
    simp only [Option.getD_some] at h
    subst h
    simp [h', undef]
/-- An operation that yields a value. -/
theorem runs_val {v : Value} (hw : Region.wanted o (yielded ops a.tmps) = true) (hr : (execOp a.eval o).run P w = .ok (.value v) w') (hR : R v w') : Runs P ops o a w R := by
  unfold Runs
  rw [if_pos hw]
  intro K Q hk
  unfold Oper.wp
  rw [hr]
  exact hk v w' hR
theorem runs_skip (hw : Region.wanted o (yielded ops a.tmps) = true) (hr : (execOp a.eval o).run P w = .ok .skip w') (hR : R undef w') : Runs P ops o a w R := by
  unfold Runs
  rw [if_pos hw]
  intro K Q hk
  unfold Oper.wp
  rw [hr]
  exact hk undef w' hR
theorem runs_off (hw : Region.wanted o (yielded ops a.tmps) = false) (hR : R undef w) : Runs P ops o a w R := by
  unfold Runs
  rw [hw, if_neg (by simp)]
  exact hR
theorem runs_guard {g : Bool} (hw : Region.wanted o (yielded ops a.tmps) = g) (h1 : g = true → Runs P ops o a w R) (h0 : g = false → R undef w) : Runs P ops o a w R := by
  cases g with
  | true => exact h1 rfl
  | false => exact runs_off hw (h0 rfl)
theorem runs_call {f : FuncId} {fn : Func} {ars : Array Operand} {ts : Array TypeId} (hf : P.funcs[f]? = some fn) (hname : (fn.name == "runtime.NumGoroutine") = false) (hb : fn.body.isSome = true) (args : Array Value)
    (hw : Region.wanted o (yielded ops a.tmps) = true) (hop : o.op = .call { callee := .value (.func f), args := ars, argTypes := ts }) (hargs : ars.map a.eval = args)
    (h : Calls P f args w fun e w' => ∃ v, e = .returned v ∧ R v w') : Runs P ops o a w R := by
  unfold Runs
  rw [if_pos hw]
  intro K Q hk
  have he := Go.Proofs.YtideafkiaipnoaaW.PrintLast.enters_ hf hname hb args w
  have hrun : (execOp a.eval o).run P w = .ok (.enter f args) w := by
    unfold execOp
    simp [hop, resolve, Deferred.ofValue, invoke, Act.eval, hargs, he]
  unfold Oper.wp
  rw [hrun, Oper.upon_enter]
  refine h.mono fun e w'' hh => ?_
  obtain ⟨v, rfl, hR⟩ := hh
  exact hk v w'' hR
end

/-- What an operation owes: its own fact, and the others kept. -/
def Owes (F : Nat → (Nat → Value) → World → Prop) (m : Nat) (dead : List (List Nat)) (i : Nat) (o : Oper) (s : Nat → Value) (w : World) : Value → World → Prop :=
  fun v w' => F i (upd s o.dst v) w' ∧ ∀ k, k < m → k ∉ dead.getD i [] → k ≠ i → F k s w → F k s w'
theorem Owes.same {F : Nat → (Nat → Value) → World → Prop} {m : Nat} {dead : List (List Nat)} {i : Nat} {o : Oper} {s : Nat → Value} {w : World} {v : Value} (h : F i (upd s o.dst v) w) : Owes F m dead i o s w v w := ⟨h, fun _ _ _ _ h => h⟩
/-- A fact that grows with memory. -/
def Grows (f : (Nat → Value) → World → Prop) : Prop := ∀ s w w', Below w.heap.size w w' → f s w → f s w'
theorem Owes.grown {F : Nat → (Nat → Value) → World → Prop} {m : Nat} {dead : List (List Nat)} {i : Nat} {o : Oper} {s : Nat → Value} {w w' : World} {v : Value} (hg : ∀ k, k < m → Grows (F k)) (hb : Below w.heap.size w w') (h : F i (upd s o.dst v) w') : Owes F m dead i o s w v w' :=
  ⟨h, fun k hk _ _ hF => hg k hk s w w' hb hF⟩
/-- The facts as a list. -/
def FL (l : List ((Nat → Value) → World → Prop)) (k : Nat) : (Nat → Value) → World → Prop := l.getD k fun _ _ => True
def AllGrow : List ((Nat → Value) → World → Prop) → Prop
  | [] => True
  | f :: r => Grows f ∧ AllGrow r
theorem AllGrow.get {l : List ((Nat → Value) → World → Prop)} (h : AllGrow l) : ∀ k, Grows (FL l k) := by
  induction l with
  | nil => intro k s w w' _ _; cases k <;> trivial
  | cons f r ih =>
    intro k
    cases k with
    | zero => exact h.1
    | succ k => exact ih h.2 k
def SlotsOnly (fp : List Nat) (f : (Nat → Value) → World → Prop) : Prop := ∀ s s' w, (∀ t ∈ fp, s t = s' t) → f s w → f s' w
def AllSlots : List (List Nat) → List ((Nat → Value) → World → Prop) → Prop
  | [], [] => True
  | p :: ps, f :: r => SlotsOnly p f ∧ AllSlots ps r
  | _, _ => False
theorem AllSlots.get : ∀ {fp : List (List Nat)} {l : List ((Nat → Value) → World → Prop)}, AllSlots fp l → ∀ k, SlotsOnly (fp.getD k []) (FL l k)
  | [], [], _, k => fun s s' w _ _ => by cases k <;> trivial
  | p :: ps, f :: r, h, k => by
    cases k with
    | zero => exact h.1
    | succ k => exact AllSlots.get h.2 k
  | [], _ :: _, h, _ => h.elim
  | _ :: _, [], h, _ => h.elim
def PreAll (F : Nat → (Nat → Value) → World → Prop) (s : Nat → Value) (w : World) : List Nat → Prop
  | [] => True
  | k :: r => F k s w ∧ PreAll F s w r
theorem PreAll.of {F : Nat → (Nat → Value) → World → Prop} {s : Nat → Value} {w : World} : ∀ {l : List Nat}, (∀ k ∈ l, F k s w) → PreAll F s w l
  | [], _ => trivial
  | k :: r, h => ⟨h k (by simp), PreAll.of fun k hk => h k (by simp [hk])⟩
def AllRun (P : Program) (ops : Array Oper) (F : Nat → (Nat → Value) → World → Prop) (m N : Nat) (pre dead : List (List Nat)) : Nat → List Oper → Prop
  | _, [] => True
  | i, o :: r => (∀ (a : Act) (w : World), a.tmps.size = N → PreAll F (sl a) w (pre.getD i []) → Runs P ops o a w (Owes F m dead i o (sl a) w)) ∧ AllRun P ops F m N pre dead (i + 1) r
theorem AllRun.get {P : Program} {ops : Array Oper} {F : Nat → (Nat → Value) → World → Prop} {m N : Nat} {pre dead : List (List Nat)} : ∀ {l : List Oper} {i : Nat}, AllRun P ops F m N pre dead i l → ∀ j o, l[j]? = some o →
    ∀ (a : Act) (w : World), a.tmps.size = N → PreAll F (sl a) w (pre.getD (i + j) []) → Runs P ops o a w (Owes F m dead (i + j) o (sl a) w)
  | [], _, _, j, o, h => by simp at h
  | o :: r, i, h, j, o', hj => by
    cases j with
    | zero => simp at hj; subst hj; exact h.1
    | succ j =>
      have := AllRun.get h.2 j o' (by simpa using hj)
      rwa [show i + 1 + j = i + (j + 1) by omega] at this
def InitAll (F : Nat → (Nat → Value) → World → Prop) (s : Nat → Value) (w : World) : Nat → Nat → Prop
  | _, 0 => True
  | k, n + 1 => (F k s w ∧ F k s { w with drawn := w.drawn + 1 }) ∧ InitAll F s w (k + 1) n
theorem InitAll.get {F : Nat → (Nat → Value) → World → Prop} {s : Nat → Value} {w : World} : ∀ {n k : Nat}, InitAll F s w k n → ∀ j, k ≤ j → j < k + n → F j s w ∧ F j s { w with drawn := w.drawn + 1 }
  | 0, k, _, j, h1, h2 => by omega
  | n + 1, k, h, j, h1, h2 => by
    rcases Nat.eq_or_lt_of_le h1 with e | e
    · subst e; exact h.1
    · exact InitAll.get h.2 j e (by omega)
def preOk (pre : List (List Nat)) (m : Nat) : Bool := pre.all fun l => l.all fun k => decide (k < m)
theorem preOk_spec {pre : List (List Nat)} {m : Nat} (h : preOk pre m = true) : ∀ i k, k ∈ pre.getD i [] → k < m := by
  intro i k hk
  rcases Nat.lt_or_ge i pre.length with hi | hi
  · have h1 := List.all_eq_true.1 h (pre.getD i []) (by rw [List.getD_eq_getElem?_getD, List.getElem?_eq_getElem hi]; simp)
    have h2 := List.all_eq_true.1 h1 k hk
    simpa using h2
  · rw [List.getD_eq_getElem?_getD, List.getElem?_eq_none hi] at hk
    simp at hk
theorem Owes.grownL {l : List ((Nat → Value) → World → Prop)} {m : Nat} {dead : List (List Nat)} {i : Nat} {o : Oper} {s : Nat → Value} {w w' : World} {v : Value} (hg : AllGrow l) (hb : Below w.heap.size w w') (h : FL l i (upd s o.dst v) w') : Owes (FL l) m dead i o s w v w' :=
  ⟨h, fun k _ _ _ hF => hg.get k s w w' hb hF⟩
def SlotsAre (s : Nat → Value) : List (Nat × Value) → Prop
  | [] => True
  | p :: r => s p.1 = p.2 ∧ SlotsAre s r
theorem SlotsAre.all {s : Nat → Value} : ∀ {r : List (Nat × Value)}, SlotsAre s r → ∀ p ∈ r, s p.1 = p.2
  | [], _, p, h => by cases h
  | q :: r, h, p, hp => by
    rcases List.mem_cons.1 hp with e | e
    · subst e; exact h.1
    · exact SlotsAre.all h.2 p e
end Go.Proofs.Ytideafkiaipnoaa.Deed

/- What single operations come to. -/
namespace Go.Proofs.Ytideafkiaipnoaa.Deed
set_option linter.unusedVariables false
set_option linter.unusedSimpArgs false
open Go Go.RowKit Go.Proofs.YtideafkiaipnoaaW.PrintWords
section
variable {P : Program} {ρ : Operand → Value} {o : Oper} {w : World} {x y z : Operand} {t u : TypeId} {k : IntKind} {a b : Int} {v v' : Value}
theorem x_move (ho : o.op = .move x) (h : ρ x = v) : (execOp ρ o).run P w = .ok (.value v) w := by unfold execOp; rw [ho]; subst h; rfl
theorem x_assign (ho : o.op = .assign x) (h : ρ x = v) : (execOp ρ o).run P w = .ok (.value v) w := by unfold execOp; rw [ho]; subst h; rfl
theorem x_pick {c : Bool} (ho : o.op = .pick x y z) (hc : ρ x = .bool c) (h : (if c = true then ρ y else ρ z) = v) : (execOp ρ o).run P w = .ok (.value v) w := by
  unfold execOp
  rw [ho]
  subst h
  simp [hc, asBool]
theorem x_or {c d : Bool} (ho : o.op = .pick x (.const (.bool true)) y) (he : ρ (.const (.bool true)) = .bool true) (hc : ρ x = .bool c) (h : c = false → ρ y = .bool d) : (execOp ρ o).run P w = .ok (.value (.bool (c || d))) w := by
  refine x_pick ho hc ?_
  cases c with
  | true => simpa using he
  | false => simpa using h rfl
theorem x_and {c d : Bool} (ho : o.op = .pick x y (.const (.bool false))) (he : ρ (.const (.bool false)) = .bool false) (hc : ρ x = .bool c) (h : c = true → ρ y = .bool d) : (execOp ρ o).run P w = .ok (.value (.bool (c && d))) w := by
  refine x_pick ho hc ?_
  cases c with
  | true => simpa using h rfl
  | false => simpa using he
theorem x_nil {ad : Addr} (ho : o.op = .nilCheck x) (h : ρ x = .pointer (some ad)) : (execOp ρ o).run P w = .ok (.value (.pointer (some ad))) w := by unfold execOp; rw [ho]; simp [h]
theorem x_not {c : Bool} (ho : o.op = .unOp .not t x) (h : ρ x = .bool c) : (execOp ρ o).run P w = .ok (.value (.bool (!c))) w := by unfold execOp; rw [ho]; simp [h, Op.unary]
theorem x_lss (ho : o.op = .binOp .lss t x y u) (hx : ρ x = .int k a) (hy : ρ y = .int k b) : (execOp ρ o).run P w = .ok (.value (.bool (decide (a < b)))) w := by unfold execOp; rw [ho]; simp [hx, hy, eqGuard, binOp, Op.intCmp]
theorem x_leq (ho : o.op = .binOp .leq t x y u) (hx : ρ x = .int k a) (hy : ρ y = .int k b) : (execOp ρ o).run P w = .ok (.value (.bool (decide (a ≤ b)))) w := by unfold execOp; rw [ho]; simp [hx, hy, eqGuard, binOp, Op.intCmp]
theorem x_gtr (ho : o.op = .binOp .gtr t x y u) (hx : ρ x = .int k a) (hy : ρ y = .int k b) : (execOp ρ o).run P w = .ok (.value (.bool (decide (b < a)))) w := by unfold execOp; rw [ho]; simp [hx, hy, eqGuard, binOp, Op.intCmp]
theorem x_geq (ho : o.op = .binOp .geq t x y u) (hx : ρ x = .int k a) (hy : ρ y = .int k b) : (execOp ρ o).run P w = .ok (.value (.bool (decide (b ≤ a)))) w := by unfold execOp; rw [ho]; simp [hx, hy, eqGuard, binOp, Op.intCmp]
theorem x_eql (ho : o.op = .binOp .eql t x y u) (hx : ρ x = .int k a) (hy : ρ y = .int k b) : (execOp ρ o).run P w = .ok (.value (.bool (a == b))) w := by unfold execOp; rw [ho]; simp [hx, hy, eqGuard, binOp, Op.intCmp]
theorem x_neq (ho : o.op = .binOp .neq t x y u) (hx : ρ x = .int k a) (hy : ρ y = .int k b) : (execOp ρ o).run P w = .ok (.value (.bool (a != b))) w := by unfold execOp; rw [ho]; simp [hx, hy, eqGuard, binOp, Op.intCmp]
theorem x_add (ho : o.op = .binOp .add t x y u) (hx : ρ x = .int k a) (hy : ρ y = .int k b) : (execOp ρ o).run P w = .ok (.value (.int k (k.wrap (a + b)))) w := by unfold execOp; rw [ho]; simp [hx, hy, eqGuard, binOp, Op.intArith]
theorem x_sub (ho : o.op = .binOp .sub t x y u) (hx : ρ x = .int k a) (hy : ρ y = .int k b) : (execOp ρ o).run P w = .ok (.value (.int k (k.wrap (a - b)))) w := by unfold execOp; rw [ho]; simp [hx, hy, eqGuard, binOp, Op.intArith]
theorem wrap_in {n : Int} (h : -9223372036854775808 ≤ n ∧ n ≤ 9223372036854775807) : IntKind.i64.wrap n = n := by
  rw [Go.Proofs.YtideafkiaipnoaaW.PrintLast.i64_w]
  unfold wrap64
  omega
theorem x_add' (ho : o.op = .binOp .add t x y u) (hx : ρ x = .int .i64 a) (hy : ρ y = .int .i64 b) (h : -9223372036854775808 ≤ a + b ∧ a + b ≤ 9223372036854775807) : (execOp ρ o).run P w = .ok (.value (.int .i64 (a + b))) w := by
  rw [x_add ho hx hy, wrap_in h]
theorem x_sub' (ho : o.op = .binOp .sub t x y u) (hx : ρ x = .int .i64 a) (hy : ρ y = .int .i64 b) (h : -9223372036854775808 ≤ a - b ∧ a - b ≤ 9223372036854775807) : (execOp ρ o).run P w = .ok (.value (.int .i64 (a - b))) w := by
  rw [x_sub ho hx hy, wrap_in h]
theorem x_seql {s r : ByteArray} (ho : o.op = .binOp .eql t x y u) (hx : ρ x = .string s) (hy : ρ y = .string r) : (execOp ρ o).run P w = .ok (.value (.bool (s.toList == r.toList))) w := by unfold execOp; rw [ho]; simp [hx, hy, eqGuard, binOp, Op.stringOp]
theorem x_sneq {s r : ByteArray} (ho : o.op = .binOp .neq t x y u) (hx : ρ x = .string s) (hy : ρ y = .string r) : (execOp ρ o).run P w = .ok (.value (.bool (!(s.toList == r.toList)))) w := by unfold execOp; rw [ho]; simp [hx, hy, eqGuard, binOp, Op.stringOp]
theorem x_extract {vs : Array Value} {i : Nat} (ho : o.op = .extract x i) (h : ρ x = .tuple vs) (hv : vs[i]? = some v) : (execOp ρ o).run P w = .ok (.value v) w := by unfold execOp; rw [ho]; simp [h, Instr.extract, hv]
theorem x_len_slice {A : Option Addr} {n c : Nat} {e : TypeId} (ho : o.op = .call { callee := .builtin .len, args := #[x], argTypes := #[t] }) (ht : P.underlying t = some (.slice e)) (h : ρ x = .slice A n c) :
    (execOp ρ o).run P w = .ok (.value (.int .i64 n)) w := by
  unfold execOp
  simp [ho, resolve, invoke, builtin, Builtin.len_, run_underlying ht, h, goInt]
theorem x_len_string {s : ByteArray} (ho : o.op = .call { callee := .builtin .len, args := #[x], argTypes := #[t] }) (ht : P.underlying t = some .string) (h : ρ x = .string s) :
    (execOp ρ o).run P w = .ok (.value (.int .i64 s.size)) w := by
  unfold execOp
  simp [ho, resolve, invoke, builtin, Builtin.len_, run_underlying ht, h, goInt]

/-! ### Addresses -/
theorem add_mk (g k n : Nat) : (⟨g, k, none⟩ : Addr).add n = ⟨g, k + n, none⟩ := by unfold Addr.add; split <;> simp_all
theorem x_field {ad : Addr} {fs : Array Field} {f : Nat} {fd : Field} (ho : o.op = .fieldAddr t x f) (h : ρ x = .pointer (some ad)) (ht : P.underlying t = some (.struct fs)) (hf : fs[f]? = some fd) {n : Nat} (hi : (P.info? fd.type).map (·.size) = some n) (hs : n ≠ 0) (hv : Value.pointer (some (ad.add fd.offset)) = v) :
    (execOp ρ o).run P w = .ok (.value v) w := by
  subst hv
  obtain ⟨i, hi1, hi2⟩ := Option.map_eq_some_iff.1 hi
  subst hi2
  unfold execOp
  simp [ho, h, Instr.fieldAt, run_underlying ht, hf, Instr.sureAddr, fieldPlace, sizeOf, typeInfo, hi1, hs]
theorem x_index_slice {ad : Addr} {n c m : Nat} {e : TypeId} (ho : o.op = .indexAddr t x y) (h : ρ x = .slice (some ad) n c) (hy : ρ y = .int k a) (ht : P.underlying t = some (.slice e)) (hi : (P.info? e).map (·.size) = some m) (h0 : 0 ≤ a) (h1 : a < n) (hv : Value.pointer (some (ad.add (a.toNat * m))) = v) :
    (execOp ρ o).run P w = .ok (.value v) w := by
  subst hv
  obtain ⟨i, hi1, hi2⟩ := Option.map_eq_some_iff.1 hi
  subst hi2
  unfold execOp
  simp [ho, h, hy, Instr.indexAt, asIntOf, run_underlying ht, sizeOf, typeInfo, hi1, h0, h1]
theorem x_index_array {ad : Addr} {n m : Nat} {e : TypeId} (ho : o.op = .indexAddr t x y) (h : ρ x = .pointer (some ad)) (hy : ρ y = .int k a) (ht : P.underlying t = some (.array n e)) (hi : (P.info? e).map (·.size) = some m) (h0 : 0 ≤ a) (h1 : a < n) (hv : Value.pointer (some (ad.add (a.toNat * m))) = v) :
    (execOp ρ o).run P w = .ok (.value v) w := by
  subst hv
  obtain ⟨i, hi1, hi2⟩ := Option.map_eq_some_iff.1 hi
  subst hi2
  unfold execOp
  simp [ho, h, hy, Instr.indexAt, asIntOf, run_underlying ht, sizeOf, typeInfo, hi1, h0, h1, Instr.sureAddr]

/-! ### Loads -/
theorem x_load1 {ad : Addr} {d : TypeDesc} (ho : o.op = .load t x) (h : ρ x = .pointer (some ad)) (ht : P.underlying t = some d) (hd : (match d with | .struct _ => false | .array _ _ => false | _ => true) = true) (hc : w.cell? ad = some v) :
    (execOp ρ o).run P w = .ok (.value v) w := by
  unfold execOp
  cases d <;> simp_all [Instr.loadAt, Instr.sureAddr, loadVar, isAgg, run_underlying ht]
theorem x_loadS {ad : Addr} {fs : Array Field} (ho : o.op = .load t x) (h : ρ x = .pointer (some ad)) (ht : P.underlying t = some (.struct fs)) (cs : List Value) (hi : (P.info? t).map (·.size) = some cs.length) (hc : ∀ (j : Nat) (u : Value), cs[j]? = some u → w.cell? (ad.add j) = some u) :
    (execOp ρ o).run P w = .ok (.value (.agg cs.toArray)) w := by
  have hr := run_loadCells_list (P := P) (w := w) ad cs hc
  obtain ⟨i, hi1, hi2⟩ := Option.map_eq_some_iff.1 hi
  unfold execOp
  simp [ho, h, Instr.loadAt, Instr.sureAddr, loadVar, isAgg, run_underlying ht, sizeOf, typeInfo, hi1, hi2, hr]
theorem blk_list {g : Nat} {L : List Value} {T : TypeId} {f : Nat × Nat} (hb : w.heap[g]? = some (.cells L.toArray T f)) (off : Nat) {cs : List Value} (h : (L.drop off).take cs.length = cs) : ∀ (j : Nat) (u : Value), cs[j]? = some u → w.cell? ((⟨g, off, none⟩ : Addr).add j) = some u := by
  intro j u hu
  have hj := (List.getElem?_eq_some_iff.1 hu).1
  rw [← h, List.getElem?_take_of_lt hj, List.getElem?_drop] at hu
  have he : (⟨g, off, none⟩ : Addr).add j = ⟨g, off + j, none⟩ := by unfold Addr.add; split <;> simp_all
  rw [he]
  simp [World.cell?, hb, hu]
theorem blk_one {g : Nat} {L : List Value} {T : TypeId} {f : Nat × Nat} (hb : w.heap[g]? = some (.cells L.toArray T f)) (off : Nat) (h : L[off]? = some v) : w.cell? ⟨g, off, none⟩ = some v := by
  simp [World.cell?, hb, h]
end
/-- A slot that is written only where G lets it. -/
def GV (G : Bool) (x v : Value) : Prop := (G = true → x = v) ∧ (G = false → x = undef)
theorem GV.on {G : Bool} {x v : Value} (hg : G = true) (h : x = v) : GV G x v := ⟨fun _ => h, fun hf => (by rw [hg] at hf; cases hf)⟩
theorem GV.off {G : Bool} {x v : Value} (hg : G = false) (h : x = undef) : GV G x v := ⟨fun ht => (by rw [hg] at ht; cases ht), fun _ => h⟩
/-! ### Which slots a fact speaks of -/
theorem so_eq (d : Nat) (r : List Nat) (V : Value) : SlotsOnly (d :: r) fun s _ => s d = V := fun s s' w h H => (h d (by simp)).symm.trans H
theorem so_gv (d : Nat) (r : List Nat) (G : Bool) (V : Value) : SlotsOnly (d :: r) fun s _ => GV G (s d) V := fun s s' w h H => by
  have e := h d (by simp)
  show GV G (s' d) V
  rw [← e]
  exact H
theorem so_w (r : List Nat) (f : World → Prop) : SlotsOnly r fun _ w => f w := fun _ _ _ _ H => H
theorem so_1 (d : Nat) (f : Value → World → Prop) : SlotsOnly [d] fun s w => f (s d) w := fun s s' w h H => by
  have e := h d (by simp)
  show f (s' d) w
  rw [← e]
  exact H
theorem so_2 (d e : Nat) (f : Value → Value → World → Prop) : SlotsOnly [d, e] fun s w => f (s d) (s e) w := fun s s' w h H => by
  have e1 := h d (by simp)
  have e2 := h e (by simp)
  show f (s' d) (s' e) w
  rw [← e1, ← e2]
  exact H
section
variable {ops : Array Oper} {o : Oper} {a : Act}
theorem wanted_b {j : Nat} {d : Tmp} {b c : Bool} (hg : o.guard = some (j, b)) (hd : (ops[j]?).bind (·.dst) = some d) (h : sl a d = .bool c) : Region.wanted o (yielded ops a.tmps) = (c == b) := by
  unfold Region.wanted
  rw [hg]
  simp only [yielded_of hd h]
  cases c <;> cases b <;> rfl
theorem wanted_GV {j : Nat} {d : Tmp} {b G c : Bool} (hg : o.guard = some (j, b)) (hd : (ops[j]?).bind (·.dst) = some d) (h : GV G (sl a d) (.bool c)) : Region.wanted o (yielded ops a.tmps) = (G && (c == b)) := by
  cases G with
  | true => rw [wanted_b hg hd (h.1 rfl)]; simp
  | false =>
    unfold Region.wanted
    rw [hg]
    simp only [yielded_un hd (h.2 rfl)]
    simp
end
theorem args1 {ρ : Operand → Value} {x : Operand} {v : Value} (h : ρ x = v) : (#[x] : Array Operand).map ρ = #[v] := by simp [h]
theorem args2 {ρ : Operand → Value} {x y : Operand} {v u : Value} (h : ρ x = v) (h2 : ρ y = u) : (#[x, y] : Array Operand).map ρ = #[v, u] := by simp [h, h2]
theorem args3 {ρ : Operand → Value} {x y z : Operand} {v u t : Value} (h : ρ x = v) (h2 : ρ y = u) (h3 : ρ z = t) : (#[x, y, z] : Array Operand).map ρ = #[v, u, t] := by simp [h, h2, h3]
end Go.Proofs.Ytideafkiaipnoaa.Deed

/- Operations that make or write memory. -/
namespace Go.Proofs.Ytideafkiaipnoaa.Deed
set_option linter.unusedVariables false
set_option linter.unusedSimpArgs false
open Go Go.RowKit Go.Proofs.YtideafkiaipnoaaW.PrintWords
section
variable {P : Program} {ρ : Operand → Value} {o : Oper} {w : World} {x y z : Operand} {t e : TypeId} {v : Value}
theorem x_box (ho : o.op = .box t x) (h : ρ x = v) : (execOp ρ o).run P w = .ok (.value (.pointer (some ⟨w.heap.size, 0, none⟩))) (w.alloc (.cells v.cells t)) := by
  unfold execOp
  simp [ho, h, Instr.box, newVar, newRow]
theorem x_alloc {z : Value} (ho : o.op = .alloc t) (hz : (P.info? t).map (·.zero) = some (some z)) : (execOp ρ o).run P w = .ok (.value (.pointer (some ⟨w.heap.size, 0, none⟩))) (w.alloc (.cells z.cells t)) := by
  obtain ⟨i, h1, h2⟩ := Option.map_eq_some_iff.1 hz
  unfold execOp
  simp [ho, Instr.alloc, newVar, newRow, zeroValue, typeInfo, h1, h2]
theorem cells_one (h : v.oneCell' = true) : v.cells = #[v] := by cases v <;> simp_all [Value.oneCell', Value.cells]
theorem x_store1 {ad : Addr} {u : Value} (ho : o.op = .store t x y) (hx : ρ x = .pointer (some ad)) (hy : ρ y = v) (h1 : v.oneCell' = true) (hs : (P.info? t).map (·.size) = some 1) (hc : w.cell? ad = some u) (hf : w.frozen? ad = false) :
    (execOp ρ o).run P w = .ok .skip (w.setCell ad v) := by
  obtain ⟨i, h2, h3⟩ := Option.map_eq_some_iff.1 hs
  have hst : (store (ad.add 0) v).run P w = .ok () (w.setCell ad v) := by
    rw [run_store P w _ v _ h1]
    simp [Addr.add, hc, hf]
  unfold execOp
  simp [ho, hx, hy, Instr.storeAt, Instr.sureAddr, storeVar, cells_one h1, sizeOf, typeInfo, h2, h3, storeCells, hst]
theorem x_storeS {g off : Nat} {cs : List Value} (ho : o.op = .store t x y) (hx : ρ x = .pointer (some ⟨g, off, none⟩)) (hy : ρ y = .agg cs.toArray) (h1 : ∀ v ∈ cs, v.oneCell' = true) (hs : (P.info? t).map (·.size) = some cs.length)
    (hc : ∀ j, j < cs.length → (w.cell? ⟨g, off + j, none⟩).isSome = true) (hf : ∀ j, j < cs.length → w.frozen? ⟨g, off + j, none⟩ = false) :
    (execOp ρ o).run P w = .ok .skip (w.setCells g off cs) := by
  obtain ⟨i, h2, h3⟩ := Option.map_eq_some_iff.1 hs
  have hst := run_storeCells_cells (P := P) g off cs 0 w (fun j hj => by simpa using hc j hj) (fun j hj => by simpa using hf j hj) h1
  simp only [Nat.add_zero] at hst
  unfold execOp
  simp [ho, hx, hy, Instr.storeAt, Instr.sureAddr, storeVar, Value.cells, sizeOf, typeInfo, h2, h3, hst]
/-- The block after a store of many cells. -/
theorem blk_stored {g : Nat} {T : TypeId} (cs : List Value) (off : Nat) (w : World) (L : List Value) (h : w.heap[g]? = some (.cells L.toArray T (0, 0))) (hl : off + cs.length ≤ L.length) :
    (w.setCells g off cs).heap[g]? = some (.cells (L.take off ++ cs ++ L.drop (off + cs.length)).toArray T (0, 0)) := by
  obtain ⟨cur, h1, _, h3⟩ := setCells_row cs off w L.toArray h (by simpa using hl)
  rw [h1]
  have : cur = (L.take off ++ cs ++ L.drop (off + cs.length)).toArray := by
    apply Array.ext'
    rw [h3]
  rw [this]
theorem below_cells {g B : Nat} {w w' : World} {cs : List Value} {off : Nat} (h : Below B w w') (hg : B ≤ g) : Below B w (w'.setCells g off cs) := by
  obtain ⟨h1, h2, h3, h4⟩ := setCells_same g cs off w'
  exact ⟨h1.trans h.os, h2.trans h.tape, h3.trans h.output, by rw [h4]; exact h.size, fun i hi => (setCells_far cs off i (by omega)).trans (h.block i hi)⟩
theorem zip_fill (cs : List Value) : ∀ (off : Nat) (A : Array Value), off + cs.length ≤ A.size → (cs.zipIdx off).foldl (fun (B : Array Value) (p : Value × Nat) => B.setIfInBounds p.2 p.1) A = (A.toList.take off ++ cs ++ A.toList.drop (off + cs.length)).toArray := by
  induction cs with
  | nil => intro off A _; simp
  | cons c r ih =>
    intro off A h
    simp only [List.length_cons] at h
    rw [List.zipIdx_cons, List.foldl_cons, ih (off + 1) _ (by simp; omega)]
    congr 1
    have ho : off < A.toList.length := by rw [Array.length_toList]; omega
    rw [Array.toList_setIfInBounds, List.take_set, List.drop_set_of_lt (by omega)]
    simp only [List.length_cons]
    rw [show off + 1 + r.length = off + (r.length + 1) by omega, List.take_add_one, List.getElem?_eq_getElem ho]
    simp only [Option.toList_some]
    rw [List.set_append_right _ _ (by simp; omega)]
    rw [Array.length_toList] at ho
    simp [Nat.min_eq_left (Nat.le_of_lt ho)]
/-- A slice literal of one element. -/
theorem x_build1 {z v : Value} {n : Nat} (ho : o.op = .buildSlice t 1 #[(0, x)]) (ht : P.underlying t = some (.slice e)) (hi : (P.info? e).map (fun i => (i.zero, i.size)) = some (some z, n)) (hn : 0 < n) (hn2 : n ≤ 16777216) (h : ρ x = v) (hv : v.cells.size = n) :
    (execOp ρ o).run P w = .ok (.value (.slice (some ⟨w.heap.size, 0, none⟩) 1 1)) (w.alloc (.cells v.cells e)) := by
  obtain ⟨i, h1, h2⟩ := Option.map_eq_some_iff.1 hi
  simp only [Prod.mk.injEq] at h2
  obtain ⟨h2, h3⟩ := h2
  have hne : n ≠ 0 := by omega
  have hsz : ((Array.range (1 * n)).map fun x => z.cells[x % z.cells.size]!).size = n := by simp
  have hf : Instr.fill (fun i => some (i * n, n)) ((Array.range (1 * n)).map fun x => z.cells[x % z.cells.size]!) [(0, v)] = some v.cells := by
    simp only [Instr.fill, Nat.zero_mul, Nat.zero_add, hv, hsz]
    rw [if_neg (by simp)]
    congr 1
    rw [← Array.foldl_toList, Array.toList_zipIdx]
    have := zip_fill v.cells.toList 0 ((Array.range (1 * n)).map fun x => z.cells[x % z.cells.size]!) (by simp [hv])
    rw [this]
    rw [List.take_zero, List.nil_append, Array.length_toList, hv, Nat.zero_add, List.drop_eq_nil_of_le (by simp)]
    simp
  unfold execOp
  simp only [ho, List.map_toArray, List.map_cons, List.map_nil, h]
  simp [Instr.buildSlice, run_underlying ht, sizeOf, typeInfo, h1, h3, hne, zeroValue, h2, newRow]
  rw [Nat.one_mul] at hf
  rw [if_neg (by omega), hf]
  simp
end
section
variable {P : Program} {ρ : Operand → Value} {o : Oper} {w : World} {x y : Operand} {t e : TypeId} {α : Type} {R : α → List Value → Prop}
/-- append(v, p), p in a block of its own. -/
theorem x_append (ho : o.op = .call { callee := .builtin .append, args := #[x, y], argTypes := #[t, t] }) {z : Value} {size bytes : Nat} (ht : P.underlying t = some (.slice e)) (hinfo : (P.info? e).map (fun i => (i.zero, i.size, i.bytes)) = some (some z, size, bytes)) (hz : z.cells.size = size) (hs0 : 0 < size) (hb0 : 0 < bytes)
    {v : Value} {ps : List α} {p : α} {cs : List Value} {gb c : Nat} (hx : ρ x = v) (hy : ρ y = .slice (some ⟨gb, 0, none⟩) 1 c) (hb : w.heap[gb]? = some (.cells cs.toArray e (0, 0))) (hp : R p cs) (hcs : cs.length = size) (h1 : ∀ u ∈ cs, u.oneCell' = true)
    (HO : OwnRow R e size w 0 v ps) (hl : (ps.length + 1) * bytes ≤ 140737488355328) :
    ∃ v1 w1, (execOp ρ o).run P w = .ok (.value v1) w1 ∧ OwnRow R e size w1 0 v1 (ps ++ [p]) ∧ w.grownBy w1 v.ownBlock ∧ (v1.ownBlock = v.ownBlock ∨ v1.ownBlock = some w.heap.size) := by
  obtain ⟨i0, hi, hzz⟩ := Option.map_eq_some_iff.1 hinfo
  simp only [Prod.mk.injEq] at hzz
  obtain ⟨hz0, hz1, hz2⟩ := hzz
  obtain ⟨inner, hown, hr⟩ := HO
  have hlen : ps.length + 1 ≤ 140737488355328 := Nat.le_trans (Nat.le_mul_of_pos_right _ hb0) hl
  obtain ⟨v1, w1, hrun, h2, hg, _, hat⟩ := run_append_own_at (P := P) w 0 t o.type e i0 z size bytes ht hi hz0 hz1 hz2 hz hs0 v ps.length inner hown ⟨gb, 0, none⟩ 1 c cs (by rw [hcs]; simp)
    (by simpa using World.news_of_block (cs := cs.toArray) (t := e) (fr := (0, 0)) hb) h1 (by simp only [maxLen]; omega) hl (by omega)
  refine ⟨v1, w1, ?_, ⟨inner ++ cs, by rw [List.length_append, List.length_singleton]; exact h2, hr.snoc hp hcs⟩, hg, hat⟩
  unfold execOp
  simp [ho, resolve, invoke, builtin, hx, hy, hrun]
end
theorem runs_append {ops : Array Oper} {o : Oper} {a : Act} {w : World} {P : Program} {x y : Operand} {t e : TypeId} {α : Type} {R : α → List Value → Prop} {K : Value → World → Prop} (hw : Region.wanted o (yielded ops a.tmps) = true)
    (ho : o.op = .call { callee := .builtin .append, args := #[x, y], argTypes := #[t, t] }) {z : Value} {size bytes : Nat} (ht : P.underlying t = some (.slice e)) (hinfo : (P.info? e).map (fun i => (i.zero, i.size, i.bytes)) = some (some z, size, bytes)) (hz : z.cells.size = size) (hs0 : 0 < size) (hb0 : 0 < bytes)
    {v : Value} {ps : List α} {p : α} {cs : List Value} {gb c : Nat} (hx : a.eval x = v) (hy : a.eval y = .slice (some ⟨gb, 0, none⟩) 1 c) (hb : w.heap[gb]? = some (.cells cs.toArray e (0, 0))) (hp : R p cs) (hcs : cs.length = size) (h1 : ∀ u ∈ cs, u.oneCell' = true)
    (HO : OwnRow R e size w 0 v ps) (hl : (ps.length + 1) * bytes ≤ 140737488355328)
    (h : ∀ v1 w1, OwnRow R e size w1 0 v1 (ps ++ [p]) → w.grownBy w1 v.ownBlock → (v1.ownBlock = v.ownBlock ∨ v1.ownBlock = some w.heap.size) → K v1 w1) : Runs P ops o a w K := by
  obtain ⟨v1, w1, hr, h2, h3, h4⟩ := x_append (ρ := a.eval) ho ht hinfo hz hs0 hb0 hx hy hb hp hcs h1 HO hl
  exact runs_val hw hr (h v1 w1 h2 h3 h4)
/-! ### Facts written out; the rule over them -/
/-- A fact on slots and memory: a slot's value; a slot that is written where G lets it; memory alone; memory and a slot or two. -/
inductive FS where
  | eq (d : Nat) (v : Value)
  | gv (G : Bool) (d : Nat) (v : Value)
  | w (f : World → Prop)
  | s1 (d : Nat) (f : Value → World → Prop)
  | s2 (d e : Nat) (f : Value → Value → World → Prop)
def FS.H : FS → (Nat → Value) → World → Prop
  | .eq d v => fun s _ => s d = v
  | .gv G d v => fun s _ => GV G (s d) v
  | .w f => fun _ w => f w
  | .s1 d f => fun s w => f (s d) w
  | .s2 d e f => fun s w => f (s d) (s e) w
def FS.fp : FS → List Nat
  | .eq d _ | .gv _ d _ | .s1 d _ => [d]
  | .w _ => []
  | .s2 d e _ => [d, e]
theorem FS.so : ∀ f : FS, SlotsOnly f.fp f.H
  | .eq d v => so_eq d [] v
  | .gv G d v => so_gv d [] G v
  | .w f => so_w [] f
  | .s1 d f => so_1 d f
  | .s2 d e f => so_2 d e f
def LH (l : List FS) (k : Nat) : (Nat → Value) → World → Prop := FL (l.map FS.H) k
def GrowL : List FS → Prop
  | [] => True
  | .eq _ _ :: r | .gv _ _ _ :: r => GrowL r
  | .w f :: r => (∀ w w', Below w.heap.size w w' → f w → f w') ∧ GrowL r
  | .s1 _ f :: r => (∀ v w w', Below w.heap.size w w' → f v w → f v w') ∧ GrowL r
  | .s2 _ _ f :: r => (∀ v u w w', Below w.heap.size w w' → f v u w → f v u w') ∧ GrowL r
theorem GrowL.all : ∀ {l : List FS}, GrowL l → AllGrow (l.map FS.H)
  | [], _ => trivial
  | .eq _ _ :: _, h => ⟨fun _ _ _ _ h => h, GrowL.all h⟩
  | .gv _ _ _ :: _, h => ⟨fun _ _ _ _ h => h, GrowL.all h⟩
  | .w _ :: _, h => ⟨fun _ w w' hb hf => h.1 w w' hb hf, GrowL.all h.2⟩
  | .s1 _ _ :: _, h => ⟨fun _ w w' hb hf => h.1 _ w w' hb hf, GrowL.all h.2⟩
  | .s2 _ _ _ :: _, h => ⟨fun _ w w' hb hf => h.1 _ _ w w' hb hf, GrowL.all h.2⟩
theorem all_so : ∀ (l : List FS), AllSlots (l.map FS.fp) (l.map FS.H)
  | [] => trivial
  | f :: r => ⟨f.so, all_so r⟩
/-- What is known before, from number n on. -/
def InitL (s : Nat → Value) (w : World) : List FS → Prop
  | [] => True
  | .eq d v :: r => s d = v ∧ InitL s w r
  | f :: r => (f.H s w ∧ f.H s { w with drawn := w.drawn + 1 }) ∧ InitL s w r
theorem InitL.all {s : Nat → Value} {w : World} : ∀ {l : List FS}, InitL s w l → ∀ f ∈ l, f.H s w ∧ f.H s { w with drawn := w.drawn + 1 }
  | [], _, f, hf => by cases hf
  | .eq d v :: r, h, f, hf => by
    rcases List.mem_cons.1 hf with e | e
    · subst e; exact ⟨h.1, h.1⟩
    · exact InitL.all h.2 f e
  | .gv _ _ _ :: r, h, f, hf | .w _ :: r, h, f, hf | .s1 _ _ :: r, h, f, hf | .s2 _ _ _ :: r, h, f, hf => by
    rcases List.mem_cons.1 hf with e | e
    · subst e; exact h.1
    · exact InitL.all h.2 f e
/-- What an operation owes, at these facts. -/
def OweL (l : List FS) (dead : List (List Nat)) (i : Nat) (o : Oper) (s : Nat → Value) (w : World) : Value → World → Prop := Owes (LH l) l.length dead i o s w
/-- Some facts, each as it is read. -/
def KnowL (s : Nat → Value) (w : World) (l : List FS) : List Nat → Prop
  | [] => True
  | k :: r => match l.getD k (.w fun _ => True) with
    | .eq d v => s d = v ∧ KnowL s w l r
    | .gv G d v => GV G (s d) v ∧ KnowL s w l r
    | .w f => f w ∧ KnowL s w l r
    | .s1 d f => f (s d) w ∧ KnowL s w l r
    | .s2 d e f => f (s d) (s e) w ∧ KnowL s w l r
theorem KnowL.of {s : Nat → Value} {w : World} {l : List FS} : ∀ {r : List Nat}, PreAll (LH l) s w r → KnowL s w l r
  | [], _ => trivial
  | k :: r, h => by
    have h0 := KnowL.of h.2
    have h1 : LH l k s w := h.1
    have h2 : LH l k = (l.getD k (.w fun _ => True)).H := by
      unfold LH FL
      simp only [List.getD_eq_getElem?_getD, List.getElem?_map]
      cases l[k]? <;> rfl
    rw [h2] at h1
    unfold KnowL
    cases h3 : l.getD k (.w fun _ => True) <;> (rw [h3] at h1; exact ⟨h1, h0⟩)
/-- What a store must keep. -/
def KeepL (s : Nat → Value) (W W' : World) (i : Nat) (dd : List Nat) : Nat → List FS → Prop
  | _, [] => True
  | k, .eq _ _ :: r | k, .gv _ _ _ :: r => KeepL s W W' i dd (k + 1) r
  | k, f :: r => match k == i || dd.contains k with
    | true => KeepL s W W' i dd (k + 1) r
    | false => (f.H s W → f.H s W') ∧ KeepL s W W' i dd (k + 1) r
theorem KeepL.get {s : Nat → Value} {W W' : World} {i : Nat} {dd : List Nat} : ∀ {l : List FS} {k0 : Nat}, KeepL s W W' i dd k0 l → ∀ j f, l[j]? = some f → k0 + j ∉ dd → k0 + j ≠ i → f.H s W → f.H s W'
  | [], _, _, j, f, hj, _, _, _ => by simp at hj
  | f0 :: r, k0, h, j, f, hj, hd, hi, hF => by
    cases j with
    | zero =>
      simp at hj
      subst hj
      cases f0 with
      | eq d v => exact hF
      | gv G d v => exact hF
      | w f | s1 d f | s2 d e f =>
        have e : (k0 == i || dd.contains k0) = false := by simpa using ⟨hi, hd⟩
        rw [KeepL] at h
        rw [e] at h
        exact h.1 hF
        all_goals (intros; simp_all)
    | succ j =>
      have h1 : KeepL s W W' i dd (k0 + 1) r := by
        cases f0 with
        | eq d v => exact h
        | gv G d v => exact h
        | w f | s1 d f | s2 d e f =>
          rw [KeepL] at h
          · cases e : (k0 == i || dd.contains k0) with
            | true => rw [e] at h; exact h
            | false => rw [e] at h; exact h.2
          all_goals (intros; simp_all)
      refine KeepL.get h1 j f (by simpa using hj) ?_ ?_ hF
      · rwa [show k0 + 1 + j = k0 + (j + 1) by omega]
      · rwa [show k0 + 1 + j = k0 + (j + 1) by omega]
theorem owe_keep {l : List FS} {dead : List (List Nat)} {i : Nat} {o : Oper} {s : Nat → Value} {W W' : World} {v : Value} (h : KeepL s W W' i (dead.getD i []) 0 l) (hF : LH l i (upd s o.dst v) W') : OweL l dead i o s W v W' := by
  refine ⟨hF, fun k hk hd hi hf => ?_⟩
  have h2 : LH l k = (l[k]).H := by simp [LH, FL, List.getD_eq_getElem?_getD, hk]
  rw [h2] at hf ⊢
  exact KeepL.get h k _ (by simp [hk]) (by rwa [Nat.zero_add]) (by rwa [Nat.zero_add]) hf
theorem owe_grow {l : List FS} {dead : List (List Nat)} {i : Nat} {o : Oper} {s : Nat → Value} {W W' : World} {v : Value} (hg : AllGrow (l.map FS.H)) (hb : Below W.heap.size W W') (h : LH l i (upd s o.dst v) W') : OweL l dead i o s W v W' := Owes.grownL hg hb h
def RunL (P : Program) (ops : Array Oper) (l : List FS) (pre dead : List (List Nat)) : Nat → List Oper → Prop
  | _, [] => True
  | i, o :: r => (∀ (a : Act) (W : World), KnowL (sl a) W l (pre.getD i []) → Runs P ops o a W (OweL l dead i o (sl a) W)) ∧ RunL P ops l pre dead (i + 1) r
theorem RunL.all {P : Program} {ops : Array Oper} {l : List FS} {pre dead : List (List Nat)} {N m : Nat} (hm : l.length = m) : ∀ {r : List Oper} {i : Nat}, RunL P ops l pre dead i r → AllRun P ops (LH l) m N pre dead i r
  | [], _, _ => trivial
  | _ :: _, _, h => ⟨fun a w _ hp => by subst hm; exact h.1 a w (KnowL.of hp), RunL.all hm h.2⟩
def InitD (s : Nat → Value) (w : World) : List Oper → List FS → Prop
  | _ :: r, _ :: l => InitD s w r l
  | [], l => InitL s w l
  | _ :: _, [] => True
theorem InitD.drop {s : Nat → Value} {w : World} : ∀ {r : List Oper} {l : List FS}, InitD s w r l → InitL s w (l.drop r.length)
  | _ :: r, _ :: l, h => InitD.drop (r := r) (l := l) h
  | [], l, h => h
  | _ :: _, [], _ => by simp [InitL]
theorem deedL {P : Program} {Q : Exit → Act → World → Prop} {l : List Oper} {id : Nat} {draw : Bool} {a0 : Act} {w0 : World} (Fs : List FS) (N : Nat) (pre dead : List (List Nat)) (fin : List Nat)
    (hm : P.follows .mixedOrders = true) (hn : a0.tmps.size = N) (hd : a0.defers = [])
    (hs : (deedOk l N pre dead (Fs.map FS.fp) fin && preOk pre (Fs.map FS.fp).length && decide (l.length ≤ (Fs.map FS.fp).length)) = true)
    (h0d : InitD (sl a0) w0 l Fs) (hg : GrowL Fs) (hop : AllGrow (Fs.map FS.H) → RunL P l.toArray Fs pre dead 0 l)
    (hQ : ∀ (a : Act) (w : World), a.tmps.size = N → a.defers = [] → KnowL (sl a) w Fs fin → Q .normal a w) :
    (Code.region id l.toArray draw).wp P Q a0 w0 := by
  simp only [Bool.and_eq_true, decide_eq_true_eq] at hs
  obtain ⟨⟨h1, h2⟩, h3⟩ := hs
  have h0 := h0d.drop
  have hlen : (Fs.map FS.fp).length = Fs.length := by simp
  have hlen2 : (Fs.map FS.H).length = Fs.length := by simp
  refine region_deed (ops := l.toArray) (LH Fs) N pre dead (Fs.map FS.fp) fin hm hn hd (by simpa using h1) (by simpa using h3) (fun i k hk => preOk_spec h2 i k hk) ?_ ?_ ?_ ?_
  · intro k h6 h7
    have hk : k < Fs.length := by omega
    have h8 : LH Fs k = (Fs[k]).H := by simp [LH, FL, List.getD_eq_getElem?_getD, hk]
    rw [h8]
    refine h0.all _ ?_
    have h9 : l.length ≤ k := by simpa using h6
    rw [List.mem_iff_getElem]
    exact ⟨k - l.length, by simp; omega, by rw [List.getElem_drop]; congr 1; omega⟩
  · intro k s s' w _ h6 h7
    exact (all_so Fs).get k s s' w h6 h7
  · intro i o ho a w hN hpre
    have h6 := (RunL.all (N := N) hlen.symm (hop hg.all)).get i o (by simpa using ho) a w hN
    rw [Nat.zero_add] at h6
    exact h6 (PreAll.of hpre)
  · intro a w hN hD _ hfin
    exact hQ a w hN hD (KnowL.of (PreAll.of hfin))
theorem deedC {P : Program} {Q : Exit → Act → World → Prop} {l : List Oper} {id : Nat} {a0 : Act} {w0 : World} (Fs : List FS) (N : Nat) (pre dead : List (List Nat)) (fin : List Nat)
    (hm : P.follows .mixedOrders = true) (hn : a0.tmps.size = N) (hd : a0.defers = [])
    (hs : (deedOk (chain l) N pre dead (Fs.map FS.fp) fin && preOk pre (Fs.map FS.fp).length && decide (l.length ≤ (Fs.map FS.fp).length)) = true)
    (h0d : InitD (sl a0) w0 l Fs) (hg : GrowL Fs) (hop : AllGrow (Fs.map FS.H) → RunL P l.toArray Fs pre dead 0 l)
    (hQ : ∀ (a : Act) (w : World), a.tmps.size = N → a.defers = [] → KnowL (sl a) w Fs fin → Q .normal a w) :
    (Code.region id l.toArray false).wp P Q a0 w0 := by
  simp only [Bool.and_eq_true, decide_eq_true_eq] at hs
  obtain ⟨⟨h1, h2⟩, h3⟩ := hs
  have h0 := h0d.drop
  have hlen : (Fs.map FS.fp).length = Fs.length := by simp
  refine region_deedC (LH Fs) N pre dead (Fs.map FS.fp) fin hn hd h1 h3 (fun i k hk => preOk_spec h2 i k hk) ?_ ?_ ?_ ?_
  · intro k h6 h7
    have hk : k < Fs.length := by omega
    have h8 : LH Fs k = (Fs[k]).H := by simp [LH, FL, List.getD_eq_getElem?_getD, hk]
    rw [h8]
    refine h0.all _ ?_
    rw [List.mem_iff_getElem]
    exact ⟨k - l.length, by simp; omega, by rw [List.getElem_drop]; congr 1; omega⟩
  · intro k s s' w _ h6 h7
    exact (all_so Fs).get k s s' w h6 h7
  · intro i o ho a w hN hpre
    have h6 := (RunL.all (N := N) hlen.symm (hop hg.all)).get i o (by simpa using ho) a w hN
    rw [Nat.zero_add] at h6
    exact h6 (PreAll.of hpre)
  · intro a w hN hD hfin
    exact hQ a w hN hD (KnowL.of (PreAll.of hfin))
section
variable {P : Program} {ops : Array Oper} {l : List FS} {dead : List (List Nat)} {i : Nat} {o : Oper} {a : Act} {W W' : World} {v : Value}
/-- An operation that computes. -/
theorem rv (hg : o.guard = none) (hr : (execOp a.eval o).run P W = .ok (.value v) W) (hF : LH l i (upd (sl a) o.dst v) W) : Runs P ops o a W (OweL l dead i o (sl a) W) := runs_val (wanted_none hg) hr (Owes.same hF)
/-- The same under a guard that is a plain test. -/
theorem rb {j : Nat} {d : Tmp} {b c : Bool} (hg : o.guard = some (j, b)) (hd : (ops[j]?).bind (·.dst) = some d) (h : sl a d = .bool c) (hr : (c == b) = true → (execOp a.eval o).run P W = .ok (.value v) W)
    (hF : ∀ u, GV (c == b) u v → LH l i (upd (sl a) o.dst u) W) : Runs P ops o a W (OweL l dead i o (sl a) W) := by
  have hw := wanted_b hg hd h
  refine runs_guard hw (fun ht => ?_) (fun hf => Owes.same (hF _ (GV.off hf rfl)))
  rw [ht] at hw
  exact runs_val hw (hr ht) (Owes.same (hF _ (GV.on ht rfl)))
/-- The same under a guard that has a guard. -/
theorem rg {j : Nat} {d : Tmp} {b c G : Bool} (hg : o.guard = some (j, b)) (hd : (ops[j]?).bind (·.dst) = some d) (h : GV G (sl a d) (.bool c)) (hr : (G && (c == b)) = true → (execOp a.eval o).run P W = .ok (.value v) W)
    (hF : ∀ u, GV (G && (c == b)) u v → LH l i (upd (sl a) o.dst u) W) : Runs P ops o a W (OweL l dead i o (sl a) W) := by
  have hw := wanted_GV hg hd h
  refine runs_guard hw (fun ht => ?_) (fun hf => Owes.same (hF _ (GV.off hf rfl)))
  rw [ht] at hw
  exact runs_val hw (hr ht) (Owes.same (hF _ (GV.on ht rfl)))
/-- A call of a Go function that makes memory at most. -/
theorem rc {f : FuncId} {fn : Func} {ars : Array Operand} {ts : Array TypeId} {args : Array Value} {R : Ending → World → Prop} (hgr : AllGrow (l.map FS.H)) (hg : o.guard = none) (hf : P.funcs[f]? = some fn) (hname : (fn.name == "runtime.NumGoroutine") = false) (hb : fn.body.isSome = true)
    (hop : o.op = .call { callee := .value (.func f), args := ars, argTypes := ts }) (hargs : ars.map a.eval = args) (hc : Calls P f args W R)
    (h : ∀ e W', R e W' → ∃ v, e = .returned v ∧ Below W.heap.size W W' ∧ LH l i (upd (sl a) o.dst v) W') : Runs P ops o a W (OweL l dead i o (sl a) W) :=
  runs_call hf hname hb args (wanted_none hg) hop hargs (hc.mono fun e W' hR => by
    obtain ⟨v, he, hbl, hF⟩ := h e W' hR
    exact ⟨v, he, Owes.grownL hgr hbl hF⟩)
theorem rcb {j : Nat} {d : Tmp} {b c : Bool} {f : FuncId} {fn : Func} {ars : Array Operand} {ts : Array TypeId} {args : Array Value} {R : Ending → World → Prop} (hgr : AllGrow (l.map FS.H)) (hg : o.guard = some (j, b)) (hd : (ops[j]?).bind (·.dst) = some d) (hgv : sl a d = .bool c) (hf : P.funcs[f]? = some fn) (hname : (fn.name == "runtime.NumGoroutine") = false) (hb : fn.body.isSome = true)
    (hop : o.op = .call { callee := .value (.func f), args := ars, argTypes := ts }) (hargs : (c == b) = true → ars.map a.eval = args) (hc : (c == b) = true → Calls P f args W R)
    (h : (c == b) = true → ∀ e W', R e W' → e = .returned v ∧ Below W.heap.size W W') (hF : ∀ u W', GV (c == b) u v → LH l i (upd (sl a) o.dst u) W') : Runs P ops o a W (OweL l dead i o (sl a) W) := by
  have hw := wanted_b hg hd hgv
  refine runs_guard hw (fun ht => ?_) (fun hf => Owes.same (hF _ _ (GV.off hf rfl)))
  rw [ht] at hw
  exact runs_call hf hname hb args hw hop (hargs ht) ((hc ht).mono fun e W' hR => ⟨v, (h ht e W' hR).1, Owes.grownL hgr (h ht e W' hR).2 (hF _ _ (GV.on ht rfl))⟩)
theorem rcg {j : Nat} {d : Tmp} {b c G : Bool} {f : FuncId} {fn : Func} {ars : Array Operand} {ts : Array TypeId} {args : Array Value} {R : Ending → World → Prop} (hgr : AllGrow (l.map FS.H)) (hg : o.guard = some (j, b)) (hd : (ops[j]?).bind (·.dst) = some d) (hgv : GV G (sl a d) (.bool c)) (hf : P.funcs[f]? = some fn) (hname : (fn.name == "runtime.NumGoroutine") = false) (hb : fn.body.isSome = true)
    (hop : o.op = .call { callee := .value (.func f), args := ars, argTypes := ts }) (hargs : (G && (c == b)) = true → ars.map a.eval = args) (hc : (G && (c == b)) = true → Calls P f args W R)
    (h : (G && (c == b)) = true → ∀ e W', R e W' → e = .returned v ∧ Below W.heap.size W W') (hF : ∀ u W', GV (G && (c == b)) u v → LH l i (upd (sl a) o.dst u) W') : Runs P ops o a W (OweL l dead i o (sl a) W) := by
  have hw := wanted_GV hg hd hgv
  refine runs_guard hw (fun ht => ?_) (fun hf => Owes.same (hF _ _ (GV.off hf rfl)))
  rw [ht] at hw
  exact runs_call hf hname hb args hw hop (hargs ht) ((hc ht).mono fun e W' hR => ⟨v, (h ht e W' hR).1, Owes.grownL hgr (h ht e W' hR).2 (hF _ _ (GV.on ht rfl))⟩)
end
/-! ### A block that the region makes -/
def NewB (n : Nat) (L : List Value) (T : TypeId) (x : Value) (W : World) : Prop := ∃ g : Nat, x = .pointer (some ⟨g, 0, none⟩) ∧ n ≤ g ∧ W.heap[g]? = some (.cells L.toArray T (0, 0))
theorem NewB.grow {n : Nat} {L : List Value} {T : TypeId} {x : Value} {W W' : World} (h : NewB n L T x W) (hb : Below W.heap.size W W') : NewB n L T x W' := by
  obtain ⟨g, h1, h2, h3⟩ := h
  exact ⟨g, h1, h2, blk_below h3 hb⟩
theorem NewB.other {n : Nat} {L : List Value} {T : TypeId} {x : Value} {W : World} {p : Addr} {u : Value} (h : NewB n L T x W) (hb : p.block < n) : NewB n L T x (W.setCell p u) := by
  obtain ⟨g, h1, h2, h3⟩ := h
  exact ⟨g, h1, h2, (Below.heap_setCell _ _ _ _ (by omega)).trans h3⟩
theorem NewB.otherS {n : Nat} {L : List Value} {T : TypeId} {x : Value} {W : World} {g off : Nat} {cs : List Value} (h : NewB n L T x W) (hb : g < n) : NewB n L T x (W.setCells g off cs) := by
  obtain ⟨g, h1, h2, h3⟩ := h
  exact ⟨g, h1, h2, (setCells_far _ _ _ (by omega)).trans h3⟩
theorem blk_setL {g : Nat} {T : TypeId} {w : World} {L : List Value} (h : w.heap[g]? = some (.cells L.toArray T (0, 0))) (i : Nat) (u : Value) : (w.setCell ⟨g, i, none⟩ u).heap[g]? = some (.cells (L.set i u).toArray T (0, 0)) := by
  have := blk_set h i u
  simpa using this
section
variable {P : Program} {ops : Array Oper} {l : List FS} {dead : List (List Nat)} {i : Nat} {o : Oper} {a : Act} {W : World} {v : Value}
theorem rbox {n : Nat} {L : List Value} {T : TypeId} (hgr : AllGrow (l.map FS.H)) (hg : o.guard = none) (hr : (execOp a.eval o).run P W = .ok (.value (.pointer (some ⟨W.heap.size, 0, none⟩))) (W.alloc (.cells L.toArray T))) (hN : n ≤ W.heap.size)
    (hF : ∀ u W', NewB n L T u W' → LH l i (upd (sl a) o.dst u) W') : Runs P ops o a W (OweL l dead i o (sl a) W) :=
  runs_val (wanted_none hg) hr (owe_grow hgr (below_alloc (Below.refl _ _) _) (hF _ _ ⟨_, rfl, hN, heap_alloc_new _ _⟩))
theorem rstore1 {t : TypeId} {x y : Operand} {g off : Nat} {T : TypeId} {L : List Value} (hg : o.guard = none) (ho : o.op = .store t x y) (hx : a.eval x = .pointer (some ⟨g, off, none⟩)) (hy : a.eval y = v) (h1 : v.oneCell' = true) (hs : (P.info? t).map (·.size) = some 1)
    (hb : W.heap[g]? = some (.cells L.toArray T (0, 0))) (hoff : decide (off < L.length) = true) (hF : LH l i (upd (sl a) o.dst undef) (W.setCell ⟨g, off, none⟩ v)) (hk : KeepL (sl a) W (W.setCell ⟨g, off, none⟩ v) i (dead.getD i []) 0 l) :
    Runs P ops o a W (OweL l dead i o (sl a) W) :=
  runs_skip (wanted_none hg) (x_store1 (u := L[off]'(of_decide_eq_true hoff)) ho hx hy h1 hs (by rw [blk_cell hb]; simp) (blk_frozen hb _)) (owe_keep hk hF)
theorem rstoreS {t : TypeId} {x y : Operand} {g off : Nat} {T : TypeId} {L cs : List Value} (hg : o.guard = none) (ho : o.op = .store t x y) (hx : a.eval x = .pointer (some ⟨g, off, none⟩)) (hy : a.eval y = .agg cs.toArray) (h1 : ∀ v ∈ cs, v.oneCell' = true) (hs : (P.info? t).map (·.size) = some cs.length)
    (hb : W.heap[g]? = some (.cells L.toArray T (0, 0))) (hoff : decide (off + cs.length ≤ L.length) = true) (hF : LH l i (upd (sl a) o.dst undef) (W.setCells g off cs)) (hk : KeepL (sl a) W (W.setCells g off cs) i (dead.getD i []) 0 l) :
    Runs P ops o a W (OweL l dead i o (sl a) W) :=
  runs_skip (wanted_none hg) (x_storeS ho hx hy h1 hs (fun j hj => by have := of_decide_eq_true hoff; rw [blk_cell hb]; simp; omega) (fun j _ => blk_frozen hb _)) (owe_keep hk hF)
end
/-! ### A region that stores into blocks S that were there before it -/
structure Kx (S : Nat → Prop) (w w' : World) : Prop where
  os : w'.os = w.os
  tape : w'.tape = w.tape
  output : w'.output = w.output
  size : w.heap.size ≤ w'.heap.size
  block : ∀ k, k < w.heap.size → ¬ S k → w'.heap[k]? = w.heap[k]?
section
variable {S : Nat → Prop} {w W W' : World} {g B : Nat}
theorem Kx.refl (S : Nat → Prop) (w : World) : Kx S w w := ⟨rfl, rfl, rfl, Nat.le_refl _, fun _ _ _ => rfl⟩
theorem Kx.drew (S : Nat → Prop) (w : World) : Kx S w { w with drawn := w.drawn + 1 } := ⟨rfl, rfl, rfl, Nat.le_refl _, fun _ _ _ => rfl⟩
theorem Kx.step (h : Kx S w W) (hb : Below W.heap.size W W') : Kx S w W' := ⟨hb.os.trans h.os, hb.tape.trans h.tape, hb.output.trans h.output, Nat.le_trans h.size hb.size, fun k hk hs => (hb.block k (Nat.lt_of_lt_of_le hk h.size)).trans (h.block k hk hs)⟩
theorem Kx.set (h : Kx S w W) (hg : S g) (i : Nat) (u : Value) : Kx S w (W.setCell ⟨g, i, none⟩ u) :=
  ⟨h.os, h.tape, h.output, by simpa [World.setCell] using h.size, fun k hk hs => (Below.heap_setCell _ _ _ _ (fun e => hs (by subst e; exact hg))).trans (h.block k hk hs)⟩
theorem Kx.sets (h : Kx S w W) (hg : S g) (i : Nat) (cs : List Value) : Kx S w (W.setCells g i cs) := by
  obtain ⟨h1, h2, h3, h4⟩ := setCells_same g cs i W
  exact ⟨h1.trans h.os, h2.trans h.tape, h3.trans h.output, by rw [h4]; exact h.size, fun k hk hs => (setCells_far cs i k (fun e => hs (e ▸ hg))).trans (h.block k hk hs)⟩
theorem Kx.grown (h : Kx S w W) {row : Option Nat} (hg : W.grownBy W' row) (hr : ∀ k, row = some k → S k ∨ w.heap.size ≤ k) : Kx S w W' :=
  ⟨hg.os.trans h.os, hg.tape.trans h.tape, hg.output.trans h.output, Nat.le_trans h.size hg.size, fun k hk hs => (hg.block k (Nat.lt_of_lt_of_le hk h.size) (fun e => by
    rcases hr k e.symm with h1 | h1
    · exact hs h1
    · omega)).trans (h.block k hk hs)⟩
theorem Kx.below {w0 : World} (h : Below B w0 w) (k : Kx S w W) (hB : B ≤ w.heap.size) (hS : ∀ i, S i → B ≤ i) : Below B w0 W :=
  h.trans ⟨k.os, k.tape, k.output, k.size, fun i hi => k.block i (by omega) (fun hs => by have := hS i hs; omega)⟩
theorem Kx.kept (k : Kx S w W) : Kept w W S := ⟨k.size, k.block⟩
theorem kx_of_below (h : Below w.heap.size w W) (S : Nat → Prop) : Kx S w W := ⟨h.os, h.tape, h.output, h.size, fun k hk _ => h.block k hk⟩
theorem kx_tr (h : Kx S w W) (k : Kx S W W') : Kx S w W' := ⟨k.os.trans h.os, k.tape.trans h.tape, k.output.trans h.output, Nat.le_trans h.size k.size, fun i hi hs => (k.block i (Nat.lt_of_lt_of_le hi h.size) hs).trans (h.block i hi hs)⟩
theorem kx_wide {T : Nat → Prop} (h : Kx S w W) (k : ∀ i, S i → T i) : Kx T w W := ⟨h.os, h.tape, h.output, h.size, fun i hi hs => h.block i hi (fun e => hs (k i e))⟩
theorem kx_grown {row : Option Nat} (h : w.grownBy W row) (k : ∀ i, some i = row → S i) : Kx S w W := (Kx.refl S w).grown h (fun i e => .inl (k i e.symm))
theorem kx_set (S : Nat → Prop) (h : S g) (i : Nat) (u : Value) : Kx S w (w.setCell ⟨g, i, none⟩ u) := (Kx.refl S w).set h i u
theorem kx_cells (S : Nat → Prop) (h : S g) {i : Nat} {cs : List Value} : Kx S w (w.setCells g i cs) := (Kx.refl S w).sets h i cs
theorem blk_kx {o : Obj} (h : w.heap[g]? = some o) (k : Kx S w W) (hs : ¬ S g) : W.heap[g]? = some o := (k.block g (blk_lt h) hs).trans h
theorem blk_neT {g1 g2 : Nat} {c1 c2 : Array Value} {T1 T2 : TypeId} {f1 f2 : Nat × Nat} (h1 : w.heap[g1]? = some (.cells c1 T1 f1)) (h2 : w.heap[g2]? = some (.cells c2 T2 f2)) (hT : decide (T1 = T2) = false) : g1 ≠ g2 := by
  rintro rfl
  rw [h1] at h2
  injection h2 with h2
  injection h2 with _ h2 _
  exact of_decide_eq_false hT h2
end
/-! ### Struct literals; results -/
def places (P : Program) (t : TypeId) : Option (List (Option (Nat × Nat))) := (P.underlying t).map fun d => match d with
  | .struct fs => fs.toList.map fun f => (P.info? f.type).map fun i => (f.offset, i.size)
  | _ => []
theorem bcons {ρ : Operand → Value} {x : Operand} {v : Value} {i : Nat} {ps : List (Nat × Operand)} {vs : List (Nat × Value)} (h : ρ x = v) (r : ps.map (fun p => (p.1, ρ p.2)) = vs) : ((i, x) :: ps).map (fun p => (p.1, ρ p.2)) = (i, v) :: vs := by simp [h, r]
theorem x_build {P : Program} {ρ : Operand → Value} {o : Oper} {w : World} {t : TypeId} {ps : List (Nat × Operand)} {vs : List (Nat × Value)} {fs : Array Field} {z : Value} {pl : List (Nat × Nat)} {L : List Value} (ho : o.op = .build t ps.toArray) (ht : P.underlying t = some (.struct fs)) (hz : (P.info? t).map (·.zero) = some (some z))
    (hpl0 : places P t = some (pl.map some)) (ha : ps.map (fun p => (p.1, ρ p.2)) = vs) (hf : Instr.fill (pl.toArray[·]?) z.cells vs = some L.toArray) :
    (execOp ρ o).run P w = .ok (.value (.agg L.toArray)) w := by
  obtain ⟨i, h1, h2⟩ := Option.map_eq_some_iff.1 hz
  have hpl : fs.toList.map (fun f => (P.info? f.type).map fun i => (f.offset, i.size)) = pl.map some := by simpa [places, ht] using hpl0
  have hm : ∀ (l : List Field) (pl : List (Nat × Nat)), l.map (fun f => (P.info? f.type).map fun i => (f.offset, i.size)) = pl.map some → (l.mapM (fun f => (do pure (f.offset, ← sizeOf f.type) : Sem (Nat × Nat)))).run P w = .ok pl w := by
    intro l
    induction l with
    | nil => intro pl h; cases pl <;> simp_all
    | cons f r ih =>
      intro pl h
      cases pl with
      | nil => simp at h
      | cons p pl =>
        simp only [List.map_cons, List.cons.injEq] at h
        obtain ⟨j, h3, h4⟩ := Option.map_eq_some_iff.1 h.1
        have hs : (sizeOf f.type).run P w = .ok j.size w := by simp [sizeOf, typeInfo, h3]
        rw [List.mapM_cons]
        have ih' := ih pl h.2
        simp at ih'
        simp [hs, h4, ih']
  have hm2 : (fs.mapM (fun f => (do pure (f.offset, ← sizeOf f.type) : Sem (Nat × Nat)))).run P w = .ok pl.toArray w := by
    rw [← Array.toArray_toList (xs := fs), List.mapM_toArray]
    have h3 := hm fs.toList pl hpl
    simp at h3
    simp [h3]
  unfold execOp
  simp only [ho]
  simp only [List.map_toArray, ha]
  simp at hm2
  have hf' : Instr.fill (fun x => pl[x]?) z.cells vs = some L.toArray := by simpa using hf
  simp [Instr.build, run_underlying ht, zeroValue, typeInfo, h1, h2, hm2, hf']
theorem vtmp {P : Program} {a : Act} {w : World} {u : Tmp} {v : Value} {rs : List ResultVar} {vs : List Value} (h : sl a u = v) (r : Vals P a.tmps w rs vs) : Vals P a.tmps w (.tmp u :: rs) (v :: vs) := by
  have : a.tmps.getD u undef = v := h
  exact this ▸ .tmp r
theorem vcell {P : Program} {a : Act} {w : World} {p : Tmp} {ty t : TypeId} {d : TypeDesc} {g : Nat} {L : List Value} {rs : List ResultVar} {vs : List Value} (h : sl a p = .pointer (some ⟨g, 0, none⟩)) (hg : w.heap[g]? = some (.cells L.toArray t (0, 0))) (hu : P.underlying ty = some d) (hd : (match d with | .struct _ | .array _ _ => true | _ => false) = true)
    (hi : (P.info? ty).map (·.size) = some L.length) (r : Vals P a.tmps w rs vs) : Vals P a.tmps w (.cell p ty :: rs) (.agg L.toArray :: vs) :=
  .cell g t L.toArray (0, 0) d h hg hu hd (by simpa using hi) r
theorem args0 {ρ : Operand → Value} : (#[] : Array Operand).map ρ = #[] := by simp
/-! ### A function's frame -/
def ParamsAre (s : Nat → Value) : Nat → List Value → Prop
  | _, [] => True
  | k, v :: r => s k = v ∧ ParamsAre s (k + 1) r
theorem params_lit (L M : List Value) : ∀ (r : List Value) (k : Nat), (∀ j, j < r.length → (L ++ M)[k + j]? = r[j]?) → ParamsAre (fun t => (L ++ M).getD t undef) k r
  | [], _, _ => trivial
  | v :: r, k, h => ⟨by have := h 0 (by simp); simp at this; simp [List.getD_eq_getElem?_getD, this], params_lit L M r (k + 1) fun j hj => by have := h (j + 1) (by simp; omega); rwa [show k + (j + 1) = k + 1 + j by omega, List.getElem?_cons_succ] at this⟩
theorem enter_ {P : Program} {Q : Exit → Act → World → Prop} {c : Code} {l : List Value} {n N : Nat} {w : World} (hN : l.length + (n - l.length) = N) (h : ∀ a : Act, a.tmps.size = N → a.defers = [] → ParamsAre (sl a) 0 l → c.wp P Q a w) :
    c.wp P Q { tmps := l.toArray ++ Array.replicate (n - l.toArray.size) undef, defers := [] } w := by
  refine h _ (by simpa using hN) rfl ?_
  have h1 := params_lit l (List.replicate (n - l.length) undef) l 0 (fun j hj => by rw [Nat.zero_add, List.getElem?_append_left hj])
  have e : sl { tmps := l.toArray ++ Array.replicate (n - l.toArray.size) undef, defers := [] } = fun t => (l ++ List.replicate (n - l.length) undef).getD t undef := by
    funext t
    simp [sl, List.getD_eq_getElem?_getD, Array.getElem?_append, List.getElem?_append, Array.getElem?_replicate, List.getElem?_replicate]
  rw [e]
  exact h1
theorem then_ret {A : Act → World → Prop} {Q : Exit → Act → World → Prop} {a : Act} {w : World} (h : Q .ret a w) : Exit.then A Q .ret a w := h
theorem then_exit {i : Nat} {A : Act → World → Prop} {Q : Exit → Act → World → Prop} {a : Act} {w : World} (h : Q (.exit i) a w) : Exit.then A Q (.exit i) a w := h
theorem blk_ret {id : Nat} {Q : Exit → Act → World → Prop} {a : Act} {w : World} (h : Q .ret a w) : Exit.inBlock id Q .ret a w := h
theorem bodyPost_norm {P : Program} {fn : Func} {R : Ending → World → Prop} {a : Act} {w : World} (h : bodyPost P fn R .ret a w) : bodyPost P fn R .normal a w := h
theorem at_exit {id : Nat} {Q : Exit → Act → World → Prop} {a : Act} {w : World} (h : Q .normal a w) : Exit.inBlock id Q (.exit id) a w := by simpa [Exit.inBlock] using h
/-- A loop, its invariant counted down. -/
theorem wp_loopN {P : Program} {Q : Exit → Act → World → Prop} {c : Code} {a : Act} {w : World} (I : Nat → Act → World → Prop) (n : Nat) (h0 : I n a w)
    (round : ∀ n a w, I n a w → c.wp P (Exit.then (fun a' w' => ∃ m, m < n ∧ I m a' w') Q) a w) : (Code.loop c).wp P Q a w := by
  classical
  have hmin : ∀ a w, (∃ n, I n a w) → ∃ n, I n a w ∧ ∀ m, I m a w → n ≤ m := by
    intro a w ⟨n, hn⟩
    induction n using Nat.strongRecOn with
    | _ n ih =>
      by_cases h : ∃ m, m < n ∧ I m a w
      · obtain ⟨m, hm, hI⟩ := h
        exact ih m hm hI
      · exact ⟨n, hn, fun m hm => by
          rcases Nat.lt_or_ge m n with hl | hl
          · exact absurd ⟨m, hl, hm⟩ h
          · exact hl⟩
  refine wp_loop (fun a w => ∃ n, I n a w) (fun a w => if h : ∃ n, I n a w then (hmin a w h).choose else 0) ⟨n, h0⟩ ?_
  intro a w hI
  have hc := (hmin a w hI).choose_spec
  refine Code.wp_mono (fun e a' w' q => ?_) (round _ a w hc.1)
  cases e with
  | normal =>
    obtain ⟨m, hm, hI'⟩ := q
    refine ⟨⟨m, hI'⟩, ?_⟩
    have h1 : ∃ n, I n a' w' := ⟨m, hI'⟩
    simp only [dif_pos hI, dif_pos h1]
    exact Nat.lt_of_le_of_lt ((hmin a' w' h1).choose_spec.2 m hI') hm
  | _ => exact q
end Go.Proofs.Ytideafkiaipnoaa.Deed

/- What the types come to. -/
namespace Go.Proofs.Ytideafkiaipnoaa.Q
open Go Go.RowKit Go.Proofs.Ytideafkiaipnoaa.Deed
theorem sz3 : (Try.prog.info? 3).map (·.size) = some 1 := by kernel_rfl
theorem inf3 : (Try.prog.info? 3).map (fun i => (i.zero, i.size, i.bytes)) = some (some (.int .i64 0), 1, 8) := by kernel_rfl
theorem zi5 : (Try.prog.info? 5).map (fun i => (i.zero, i.size)) = some (some (.int .u8 0), 1) := by kernel_rfl
theorem sz9 : (Try.prog.info? 9).map (·.size) = some 1 := by kernel_rfl
theorem sz24 : (Try.prog.info? 24).map (·.size) = some 1 := by kernel_rfl
theorem sz27 : (Try.prog.info? 27).map (·.size) = some 1 := by kernel_rfl
theorem sz37 : (Try.prog.info? 37).map (·.size) = some 1 := by kernel_rfl
theorem sz41 : (Try.prog.info? 41).map (·.size) = some 1 := by kernel_rfl
theorem zr41 : (Try.prog.info? 41).map (·.zero) = some (some (.agg ([.slice none 0 0]).toArray)) := by kernel_rfl
theorem bp41 : places Try.prog 41 = some ([(0, 1)].map some) := by kernel_rfl
theorem sz61 : (Try.prog.info? 61).map (·.size) = some 2 := by kernel_rfl
theorem sz63 : (Try.prog.info? 63).map (·.size) = some 12 := by kernel_rfl
theorem sz65 : (Try.prog.info? 65).map (·.size) = some 2 := by kernel_rfl
theorem zr65 : (Try.prog.info? 65).map (·.zero) = some (some (.agg ([.int .i64 0, .int .i64 0]).toArray)) := by kernel_rfl
theorem bp65 : places Try.prog 65 = some ([(0, 1), (1, 1)].map some) := by kernel_rfl
theorem sz67 : (Try.prog.info? 67).map (·.size) = some 12 := by kernel_rfl
theorem zr67 : (Try.prog.info? 67).map (·.zero) = some (some (.agg ([.int .i64 0, .int .i64 0, .int .i64 0, .slice none 0 0, .int .i64 0, .int .i64 0, .int .i64 0, .int .i64 0, .int .i64 0, .int .i64 0, .string ⟨#[]⟩, .string ⟨#[]⟩]).toArray)) := by kernel_rfl
theorem zi67 : (Try.prog.info? 67).map (fun i => (i.zero, i.size)) = some (some (.agg ([.int .i64 0, .int .i64 0, .int .i64 0, .slice none 0 0, .int .i64 0, .int .i64 0, .int .i64 0, .int .i64 0, .int .i64 0, .int .i64 0, .string ⟨#[]⟩, .string ⟨#[]⟩]).toArray), 12) := by kernel_rfl
theorem inf67 : (Try.prog.info? 67).map (fun i => (i.zero, i.size, i.bytes)) = some (some (.agg ([.int .i64 0, .int .i64 0, .int .i64 0, .slice none 0 0, .int .i64 0, .int .i64 0, .int .i64 0, .int .i64 0, .int .i64 0, .int .i64 0, .string ⟨#[]⟩, .string ⟨#[]⟩]).toArray), 12, 128) := by kernel_rfl
theorem sz72 : (Try.prog.info? 72).map (·.size) = some 16 := by kernel_rfl
theorem sz73 : (Try.prog.info? 73).map (·.size) = some 101 := by kernel_rfl
theorem hM : Try.prog.follows .mixedOrders = true := by kernel_rfl
end Go.Proofs.Ytideafkiaipnoaa.Q

namespace Go.Proofs.YtideafkiaipnoaaW.PrintWords
open Go.RowKit
section
variable {P : Program} {d : Nat} {xs ys : Array Value} {f : Field} {fs : List Field} {a b : Value} {r s : Bool} {w : World}
theorem eqf_last (hn : (f.name == "_") = false) (ha : (part f.type xs f.offset).run P w = .ok a w) (hb : (part f.type ys f.offset).run P w = .ok b w) (he : (Op.equalIn d f.type a b).run P w = .ok r w) : (Op.eqFields d xs ys [f]).run P w = .ok r w := by
  have hn' : f.name ≠ "_" := by simpa using hn
  simp only [Op.eqFields, if_pos hn', Sem.run_bind, ha, hb, he, Result.andThen_ok]
  cases r <;> simp
theorem eqf_cons (hn : (f.name == "_") = false) (ha : (part f.type xs f.offset).run P w = .ok a w) (hb : (part f.type ys f.offset).run P w = .ok b w) (he : (Op.equalIn d f.type a b).run P w = .ok r w) (hr : (Op.eqFields d xs ys fs).run P w = .ok s w) : (Op.eqFields d xs ys (f :: fs)).run P w = .ok (r && s) w := by
  have hn' : f.name ≠ "_" := by simpa using hn
  rw [Op.eqFields]
  simp only [if_pos hn', Sem.run_bind, ha, hb, he, Result.andThen_ok]
  cases r
  · simp
  · simpa using hr
theorem eqA_of {t : TypeId} {fs : Array Field} (hu : P.underlying t = some (.struct fs)) (hp : P.stoodInHeld t = false) (h : (Op.eqFields d xs ys fs.toList).run P w = .ok r w) : (Op.equalIn (d + 1) t (.agg xs) (.agg ys)).run P w = .ok r w := by
  have hf : P.fieldsOf t = fs := by simp [Program.fieldsOf, hu]
  rw [run_equalIn_struct (P := P) w d t xs ys (by rw [hf]; exact hu) hp, hf]
  exact h
end
end Go.Proofs.YtideafkiaipnoaaW.PrintWords

/- Rows of integers and of operations, as they are read; what a list says at a place. -/
namespace Go.Proofs.Ytideafkiaipnoaa.Q
set_option linter.unusedVariables false
set_option linter.unusedSimpArgs false
open Go Go.RowKit Go.Proofs.YtideafkiaipnoaaW.PrintWords Go.Proofs.Ytideafkiaipnoaa.Deed
/-- An operation of the log. -/
structure Op where
  actor : Int
  seq : Int
  time : Int
  deps : List Int
  kind : Int
  obj : Int
  num : Int
  undo : Int
  att : Int
  ata : Int
  key : ByteArray
  text : ByteArray
instance : Inhabited Op := ⟨⟨0, 0, 0, [], 0, 0, 0, 0, 0, 0, ⟨#[]⟩, ⟨#[]⟩⟩⟩
/-- Its cells; its vector's slice is at A, of capacity c. -/
abbrev opc (o : Op) (A : Option Addr) (c : Nat) : List Value := [.int .i64 o.actor, .int .i64 o.seq, .int .i64 o.time, .slice A o.deps.length c, .int .i64 o.kind, .int .i64 o.obj, .int .i64 o.num, .int .i64 o.undo, .int .i64 o.att, .int .i64 o.ata, .string o.key, .string o.text]
def adr (A : Option Addr) : Addr := A.getD ⟨0, 0, none⟩
/-- The integers xs lie at A. -/
def RI (w : World) (A : Option Addr) (xs : List Int) : Prop := ∀ i x, xs[i]? = some x → A = some (adr A) ∧ w.cell? ((adr A).add i) = some (.int .i64 x)
def gi (xs : List Int) (i : Int) : Int := xs.getD i.toNat 0
theorem gi_of {xs : List Int} {i : Int} (h0 : 0 ≤ i) (h1 : i < xs.length) : xs[i.toNat]? = some (gi xs i) := by
  have : i.toNat < xs.length := by omega
  simp [gi, List.getD_eq_getElem?_getD, this]
theorem cell_below {w W : World} {p : Addr} {u : Value} (h : w.cell? p = some u) (hb : Below w.heap.size w W) : W.cell? p = some u := by
  rw [hb.cell ?_]
  · exact h
  · rcases Nat.lt_or_ge p.block w.heap.size with hl | hl
    · exact hl
    · rw [World.cell?, Array.getElem?_eq_none hl] at h
      cases h
theorem RI.below {w W : World} {A : Option Addr} {xs : List Int} (h : RI w A xs) (hb : Below w.heap.size w W) : RI W A xs := fun i x hx => ⟨(h i x hx).1, cell_below (h i x hx).2 hb⟩
theorem RI.ad {w : World} {A : Option Addr} {xs : List Int} (h : RI w A xs) (i : Int) (h0 : 0 ≤ i) (h1 : i < xs.length) : A = some (adr A) := (h _ _ (gi_of h0 h1)).1
theorem RI.at_ {w W : World} {A : Option Addr} {xs : List Int} (h : RI w A xs) (hb : Below w.heap.size w W) {i : Int} (h0 : 0 ≤ i) (h1 : i < xs.length) : W.cell? ((adr A).add (i.toNat * 1)) = some (.int .i64 (gi xs i)) := by
  rw [Nat.mul_one]
  exact cell_below (h _ _ (gi_of h0 h1)).2 hb
theorem RI.nil (w : World) (A : Option Addr) : RI w A [] := fun i x h => by simp at h
/-- The operations os lie at A; the vector of the i-th at D i, of capacity C i. -/
def RO (w : World) (A : Option Addr) (os : List Op) (D : Nat → Option Addr) (C : Nat → Nat) : Prop :=
  ∀ i o, os[i]? = some o → A = some (adr A) ∧ (∀ (j : Nat) (u : Value), (opc o (D i) (C i))[j]? = some u → w.cell? ((adr A).add (i * 12 + j)) = some u) ∧ RI w (D i) o.deps ∧ o.deps.length ≤ C i
def go_ (os : List Op) (i : Int) : Op := os.getD i.toNat default
theorem go_of {os : List Op} {i : Int} (h0 : 0 ≤ i) (h1 : i < os.length) : os[i.toNat]? = some (go_ os i) := by
  have : i.toNat < os.length := by omega
  simp [go_, List.getD_eq_getElem?_getD, this]
section
variable {w W : World} {A : Option Addr} {os : List Op} {D : Nat → Option Addr} {C : Nat → Nat}
theorem RO.below (h : RO w A os D C) (hb : Below w.heap.size w W) : RO W A os D C := fun i o ho => ⟨(h i o ho).1, fun j u hu => cell_below ((h i o ho).2.1 j u hu) hb, (h i o ho).2.2.1.below hb, (h i o ho).2.2.2⟩
theorem RO.ad (h : RO w A os D C) (i : Int) (h0 : 0 ≤ i) (h1 : i < os.length) : A = some (adr A) := (h _ _ (go_of h0 h1)).1
theorem RO.deps (h : RO w A os D C) {i : Int} (h0 : 0 ≤ i) (h1 : i < os.length) : RI w (D i.toNat) (go_ os i).deps := (h _ _ (go_of h0 h1)).2.2.1
theorem RO.cap (h : RO w A os D C) {i : Int} (h0 : 0 ≤ i) (h1 : i < os.length) : (go_ os i).deps.length ≤ C i.toNat := (h _ _ (go_of h0 h1)).2.2.2
theorem add_add (ad : Addr) (i j : Nat) : (ad.add i).add j = ad.add (i + j) := by
  unfold Addr.add
  by_cases hi : i = 0 <;> by_cases hj : j = 0 <;> simp_all [Nat.add_assoc]
theorem RO.cell (h : RO w A os D C) (hb : Below w.heap.size w W) {i : Int} (h0 : 0 ≤ i) (h1 : i < os.length) {j : Nat} {u : Value} (hu : (opc (go_ os i) (D i.toNat) (C i.toNat))[j]? = some u) : W.cell? (((adr A).add (i.toNat * 12)).add j) = some u := by
  rw [add_add]
  exact cell_below ((h _ _ (go_of h0 h1)).2.1 j u hu) hb
theorem RO.cells (h : RO w A os D C) (hb : Below w.heap.size w W) {i : Int} (h0 : 0 ≤ i) (h1 : i < os.length) : ∀ (j : Nat) (u : Value), (opc (go_ os i) (D i.toNat) (C i.toNat))[j]? = some u → W.cell? (((adr A).add (i.toNat * 12)).add j) = some u := fun _ _ hu => h.cell hb h0 h1 hu
theorem RO.sub (h : RO w A os D C) (hb : Below w.heap.size w W) {i : Int} (h0 : 0 ≤ i) (h1 : i < os.length) (off : Nat) {cs : List Value} (hc : ((opc (go_ os i) (D i.toNat) (C i.toNat)).drop off).take cs.length = cs) : ∀ (j : Nat) (u : Value), cs[j]? = some u → W.cell? ((((adr A).add (i.toNat * 12)).add off).add j) = some u := by
  intro j u hu
  have hj := (List.getElem?_eq_some_iff.1 hu).1
  rw [← hc, List.getElem?_take_of_lt hj, List.getElem?_drop] at hu
  rw [add_add]
  exact h.cell hb h0 h1 hu
theorem RO.cell0 (h : RO w A os D C) (hb : Below w.heap.size w W) {i : Int} (h0 : 0 ≤ i) (h1 : i < os.length) : W.cell? ((adr A).add (i.toNat * 12)) = some (.int .i64 (go_ os i).actor) := cell_below ((h _ _ (go_of h0 h1)).2.1 0 _ rfl) hb
end
/-- A slot's slice that holds something: where. -/
theorem x_index_at {P : Program} {ρ : Operand → Value} {o : Oper} {w : World} {x y : Operand} {t : TypeId} {k : IntKind} {a : Int} {A : Option Addr} {n c m : Nat} {e : TypeId} (ho : o.op = .indexAddr t x y) (h : ρ x = .slice A n c) (hy : ρ y = .int k a) (ht : P.underlying t = some (.slice e)) (hi : (P.info? e).map (·.size) = some m)
    (h0 : 0 ≤ a) (h1 : a < n) (hA : A = some (adr A)) : (execOp ρ o).run P w = .ok (.value (.pointer (some ((adr A).add (a.toNat * m))))) w := by
  rw [hA] at h
  exact x_index_slice ho h hy ht hi h0 h1 rfl
/-! ### Blocks of integers -/
def si (xs : List Int) (i v : Int) : List Int := xs.set i.toNat v
theorem si_length (xs : List Int) (i v : Int) : (si xs i v).length = xs.length := by simp [si]
theorem gi_si {xs : List Int} {i j v : Int} (h0 : 0 ≤ i) (h1 : i < xs.length) (hj : 0 ≤ j) : gi (si xs i v) j = if j = i then v else gi xs j := by
  have hl : i.toNat < xs.length := by omega
  unfold gi si
  by_cases e : j = i
  · subst e
    simp [List.getD_eq_getElem?_getD, hl]
  · have : i.toNat ≠ j.toNat := by omega
    simp [List.getD_eq_getElem?_getD, List.getElem?_set_ne this, e]
def IB (w : World) (g : Nat) (xs : List Int) (T : TypeId) : Prop := w.heap[g]? = some (.cells (xs.map (Value.int .i64)).toArray T (0, 0))
theorem ptr1 (g n : Nat) : Value.pointer (some ((⟨g, 0, none⟩ : Addr).add (n * 1))) = .pointer (some ⟨g, n, none⟩) := by rw [add_mk]; simp
section
variable {w W : World} {g : Nat} {xs : List Int} {T : TypeId}
theorem IB.below (h : IB w g xs T) (hb : Below w.heap.size w W) : IB W g xs T := blk_below h hb
theorem IB.at_ (h : IB w g xs T) {i : Int} (h0 : 0 ≤ i) (h1 : i < xs.length) : w.cell? ⟨g, i.toNat, none⟩ = some (.int .i64 (gi xs i)) := by
  rw [blk_cell h]
  simp [gi_of h0 h1]
theorem IB.set (h : IB w g xs T) (i v : Int) : IB (w.setCell ⟨g, i.toNat, none⟩ (.int .i64 v)) g (si xs i v) T := by
  have := blk_setL h i.toNat (.int .i64 v)
  unfold IB si
  rw [List.map_set]
  exact this
theorem IB.RI (h : IB w g xs T) : RI w (some ⟨g, 0, none⟩) xs := fun i x hx => ⟨rfl, by
  show w.cell? ((⟨g, 0, none⟩ : Addr).add i) = _
  rw [add_mk, Nat.zero_add, blk_cell h]
  simp [hx]⟩
theorem rstoreI {P : Program} {ops : Array Oper} {l : List FS} {dead : List (List Nat)} {k : Nat} {o : Oper} {a : Act} {t : TypeId} {x y : Operand} {i v : Int} (hg : o.guard = none) (ho : o.op = .store t x y) (hx : a.eval x = .pointer (some ⟨g, i.toNat, none⟩)) (hy : a.eval y = .int .i64 v) (hs : (P.info? t).map (·.size) = some 1)
    (hb : IB W g xs T) (h0 : 0 ≤ i) (h1 : i < xs.length) (hF : LH l k (upd (sl a) o.dst undef) (W.setCell ⟨g, i.toNat, none⟩ (.int .i64 v))) (hk : KeepL (sl a) W (W.setCell ⟨g, i.toNat, none⟩ (.int .i64 v)) k (dead.getD k []) 0 l) :
    Runs P ops o a W (OweL l dead k o (sl a) W) :=
  runs_skip (wanted_none hg) (x_store1 (u := .int .i64 (gi xs i)) ho hx hy rfl hs (hb.at_ h0 h1) (blk_frozen hb _)) (owe_keep hk hF)
end
/-- A slice made in the region: of n integers xs. -/
def NewS (N n : Nat) (xs : List Int) (T : TypeId) (x : Value) (W : World) : Prop := ∃ g : Nat, x = .slice (some ⟨g, 0, none⟩) n n ∧ N ≤ g ∧ IB W g xs T
theorem NewS.grow {N n : Nat} {xs : List Int} {T : TypeId} {x : Value} {W W' : World} (h : NewS N n xs T x W) (hb : Below W.heap.size W W') : NewS N n xs T x W' := by
  obtain ⟨g, h1, h2, h3⟩ := h
  exact ⟨g, h1, h2, h3.below hb⟩
theorem NewS.other {N n : Nat} {xs : List Int} {T : TypeId} {x : Value} {W : World} {p : Addr} {u : Value} (h : NewS N n xs T x W) (hb : p.block < N) : NewS N n xs T x (W.setCell p u) := by
  obtain ⟨g, h1, h2, h3⟩ := h
  exact ⟨g, h1, h2, (Below.heap_setCell _ _ _ _ (by omega)).trans h3⟩
theorem NewS.otherS {N n : Nat} {xs : List Int} {T : TypeId} {x : Value} {W : World} {g off : Nat} {cs : List Value} (h : NewS N n xs T x W) (hb : g < N) : NewS N n xs T x (W.setCells g off cs) := by
  obtain ⟨g, h1, h2, h3⟩ := h
  exact ⟨g, h1, h2, (setCells_far _ _ _ (by omega)).trans h3⟩
theorem made_int (n : Nat) : madeCells #[.int .i64 0] n = ((List.replicate n (0 : Int)).map (Value.int .i64)).toArray := by
  apply Array.ext'
  unfold madeCells
  simp only [Array.toList_map, Array.toList_range]
  apply List.ext_getElem
  · simp
  · intro i h1 h2
    simp [Nat.mod_one]
theorem x_makeI {P : Program} {ρ : Operand → Value} {o : Oper} {w : World} {x y : Operand} {t e : TypeId} {a : Int} {n : Nat} (ho : o.op = .makeSlice t x y) (hx : ρ x = .int .i64 a) (hy : ρ y = .int .i64 a) (ht : P.underlying t = some (.slice e)) (hi : (P.info? e).map (fun i => (i.zero, i.size, i.bytes)) = some (some (.int .i64 0), 1, 8)) (ha : a = (n : Int)) (hn : n ≤ 1048576) :
    (execOp ρ o).run P w = .ok (.value (.slice (some ⟨w.heap.size, 0, none⟩) n n)) (w.alloc (.cells ((List.replicate n (0 : Int)).map (Value.int .i64)).toArray e)) := by
  obtain ⟨i, h1, h2⟩ := Option.map_eq_some_iff.1 hi
  simp only [Prod.mk.injEq] at h2
  obtain ⟨h2, h3, h4⟩ := h2
  subst ha
  have hr := run_makeSlice (P := P) w t e i _ ht h1 h2 .i64 .i64 n n (by omega) (by omega) (by rw [h3]; simp; omega) (by rw [h4]; omega) (by omega)
  rw [h3] at hr
  simp only [Int.toNat_natCast, Nat.mul_one, Value.cells, made_int] at hr
  unfold execOp
  simp [ho, hx, hy, hr]
theorem rmakeI {P : Program} {ops : Array Oper} {l : List FS} {dead : List (List Nat)} {k : Nat} {o : Oper} {a : Act} {W : World} {N n : Nat} {xs : List Int} {T : TypeId} (hgr : AllGrow (l.map FS.H)) (hg : o.guard = none) (hr : (execOp a.eval o).run P W = .ok (.value (.slice (some ⟨W.heap.size, 0, none⟩) n n)) (W.alloc (.cells (xs.map (Value.int .i64)).toArray T))) (hN : N ≤ W.heap.size)
    (hF : ∀ u W', NewS N n xs T u W' → LH l k (upd (sl a) o.dst u) W') : Runs P ops o a W (OweL l dead k o (sl a) W) :=
  runs_val (wanted_none hg) hr (owe_grow hgr (below_alloc (Below.refl _ _) _) (hF _ _ ⟨_, rfl, hN, heap_alloc_new _ _⟩))
/-! ### Stamps compared -/
theorem eqA65 (d : Nat) (w : World) (x0 y0 : Int) (x1 y1 : Int) :
    (Op.equalIn (d + 2) 65 (.agg #[.int .i64 x0, .int .i64 x1]) (.agg #[.int .i64 y0, .int .i64 y1])).run Try.prog w = .ok (x0 == y0 && (x1 == y1)) w := by
  refine eqA_of Try.underlying65 (by kernel_rfl) ?_
  refine eqf_cons (by rfl) (by go_simp; rfl) (by go_simp; rfl) (by go_simp) ?_
  exact eqf_last (by rfl) (by go_simp; rfl) (by go_simp; rfl) (by go_simp)
theorem x_eq65 {ρ : Operand → Value} {o : Oper} {w : World} {x y : Operand} {u : TypeId} {a b c d : Int} (ho : o.op = .binOp .eql 65 x y u) (hx : ρ x = .agg #[.int .i64 a, .int .i64 b]) (hy : ρ y = .agg #[.int .i64 c, .int .i64 d]) : (execOp ρ o).run Try.prog w = .ok (.value (.bool (a == c && b == d))) w := by
  have h1 := run_eqGuard_agg (P := Try.prog) (w := w) .eql 65 x y #[.int .i64 a, .int .i64 b] #[.int .i64 c, .int .i64 d] Try.eqGuardType65
  have h2 := eqA65 9998 w a c b d
  unfold execOp
  simp only [ho, hx, hy, Sem.run_bind, h1]
  simp [binOp, Op.equal, Op.maxDepth, h2]
end Go.Proofs.Ytideafkiaipnoaa.Q

/- Rows of the call's own that grow. -/
namespace Go.Proofs.Ytideafkiaipnoaa.Q
set_option linter.unusedVariables false
set_option linter.unusedSimpArgs false
open Go Go.RowKit Go.Proofs.YtideafkiaipnoaaW.PrintWords Go.Proofs.Ytideafkiaipnoaa.Deed
def R1 (x : Int) (cs : List Value) : Prop := cs = [.int .i64 x]
/-- Nothing of v lies below N. -/
def Above (N : Nat) (v : Value) : Prop := ∀ k, v.ownBlock = some k → N ≤ k
theorem Above.nil (N : Nat) : Above N (.slice none 0 0) := fun k hk => by simp [Value.ownBlock] at hk
theorem Above.le {N M : Nat} {v : Value} (h : Above N v) (hm : M ≤ N) : Above M v := fun k hk => Nat.le_trans hm (h k hk)
section
variable {α : Type} {R : α → List Value → Prop} {e : TypeId} {size : Nat} {w W W' : World} {v : Value} {ps : List α} {S : Nat → Prop}
theorem own_blk (h : OwnRow R e size w 0 v ps) {g : Nat} {cells : Array Value} {t : TypeId} (hb : w.heap[g]? = some (.cells cells t (0, 0))) (ht : decide (e = t) = false) : ¬ some g = v.ownBlock := h.ne_block hb (of_decide_eq_false ht)
end
/-- A slice of one element, made in the region. -/
def NewL (L : List Value) (T : TypeId) (x : Value) (W : World) : Prop := ∃ g : Nat, x = .slice (some ⟨g, 0, none⟩) 1 1 ∧ W.heap[g]? = some (.cells L.toArray T (0, 0))
theorem NewL.grow {L : List Value} {T : TypeId} {x : Value} {W W' : World} (h : NewL L T x W) (hb : Below W.heap.size W W') : NewL L T x W' := by
  obtain ⟨g, h1, h3⟩ := h
  exact ⟨g, h1, blk_below h3 hb⟩
theorem x_build0 {P : Program} {ρ : Operand → Value} {o : Oper} {w : World} {t e : TypeId} {i : TypeInfo} (ho : o.op = .buildSlice t 0 #[]) (ht : P.underlying t = some (.slice e)) (hi : P.info? e = some i) :
    (execOp ρ o).run P w = .ok (.value (.slice (some ⟨w.heap.size, 0, none⟩) 0 0)) (w.alloc (.cells #[] e)) := by
  unfold execOp
  simp [ho, Instr.buildSlice, run_underlying ht, sizeOf, typeInfo, hi, newRow, Instr.fill]
  congr 1
  simp [Array.range_zero']
section
variable {P : Program} {ops : Array Oper} {l : List FS} {dead : List (List Nat)} {k : Nat} {o : Oper} {a : Act} {W : World} {x y : Operand} {t e : TypeId} {v : Value}
theorem rbuild1 {z u : Value} {n : Nat} {L : List Value} (hgr : AllGrow (l.map FS.H)) (hg : o.guard = none) (ho : o.op = .buildSlice t 1 #[(0, x)]) (ht : P.underlying t = some (.slice e)) (hi : (P.info? e).map (fun i => (i.zero, i.size)) = some (some z, n)) (hn : 0 < n) (hn2 : n ≤ 16777216) (h : a.eval x = u) (hv : u.cells.size = n) (hL : u.cells = L.toArray)
    (hF : ∀ y W', NewL L e y W' → LH l k (upd (sl a) o.dst y) W') : Runs P ops o a W (OweL l dead k o (sl a) W) :=
  runs_val (wanted_none hg) (x_build1 ho ht hi hn hn2 h hv) (owe_grow hgr (below_alloc (Below.refl _ _) _) (hF _ _ ⟨_, rfl, by rw [← hL]; exact heap_alloc_new _ _⟩))
theorem rbuild0 {α : Type} {R : α → List Value → Prop} {size N : Nat} (hgr : AllGrow (l.map FS.H)) (hg : o.guard = none) (ho : o.op = .buildSlice t 0 #[]) (ht : P.underlying t = some (.slice e)) (hi : (P.info? e).map (·.size) = some size) (hN : N ≤ W.heap.size)
    (hF : ∀ y W', OwnRow R e size W' 0 y [] → Above N y → LH l k (upd (sl a) o.dst y) W') : Runs P ops o a W (OweL l dead k o (sl a) W) := by
  obtain ⟨j, h1, h2⟩ := Option.map_eq_some_iff.1 hi
  refine runs_val (wanted_none hg) (x_build0 ho ht h1) (owe_grow hgr (below_alloc (Below.refl _ _) _) (hF _ _ ?_ ?_))
  · have := OwnRow.lit (R := R) (e := e) (size := size) (ps := []) W 0 (inner := []) (Reps.none _ _) (Nat.zero_le _) (by simp)
    simpa using this
  · intro k hk
    simp [Value.ownBlock] at hk
    omega
theorem rappend {α : Type} {R : α → List Value → Prop} {z : Value} {size bytes : Nat} {ps : List α} {p : α} {cs : List Value} {N : Nat} {w : World} (hg : o.guard = none) (ho : o.op = .call { callee := .builtin .append, args := #[x, y], argTypes := #[t, t] }) (ht : P.underlying t = some (.slice e)) (hinfo : (P.info? e).map (fun i => (i.zero, i.size, i.bytes)) = some (some z, size, bytes)) (hz : z.cells.size = size) (hs0 : 0 < size) (hb0 : 0 < bytes)
    (hx : a.eval x = v) (hy : NewL cs e (a.eval y) W) (hp : R p cs) (hcs : cs.length = size) (h1 : ∀ u ∈ cs, u.oneCell' = true) (HO : OwnRow R e size W 0 v ps) (hl : (ps.length + 1) * bytes ≤ 140737488355328) (hv : Above N v) (hN : N ≤ W.heap.size) (hk0 : Kx (fun k => some k = v.ownBlock) w W)
    (h : ∀ v1 W', OwnRow R e size W' 0 v1 (ps ++ [p]) → Above N v1 → Kx (fun k => some k = v.ownBlock) w W' → W.grownBy W' v.ownBlock → OweL l dead k o (sl a) W v1 W') : Runs P ops o a W (OweL l dead k o (sl a) W) := by
  obtain ⟨gb, e1, hb⟩ := hy
  refine runs_append (wanted_none hg) ho ht hinfo hz hs0 hb0 hx e1 hb hp hcs h1 HO hl fun v1 w1 h2 h3 h4 => ?_
  refine h v1 w1 h2 ?_ (hk0.grown h3 fun k hk => .inl hk.symm) h3
  intro k hk
  rcases h4 with h4 | h4
  · exact hv k (h4 ▸ hk)
  · rw [h4] at hk
    injection hk with hk
    omega
end
end Go.Proofs.Ytideafkiaipnoaa.Q

/- A row of operations that is one's own, as far as writing into it asks. -/
namespace Go.Proofs.Ytideafkiaipnoaa.Q
set_option linter.unusedVariables false
set_option linter.unusedSimpArgs false
open Go Go.RowKit Go.Proofs.YtideafkiaipnoaaW.PrintWords Go.Proofs.Ytideafkiaipnoaa.Deed
/-- n operations in the block g; each one's vector is a whole block of integers; all blocks between lo and hi. -/
def Shape (w : World) (g n lo hi : Nat) : Prop := ∃ L : List Value, w.heap[g]? = some (.cells L.toArray 67 (0, 0)) ∧ L.length = n * 12 ∧ lo ≤ g ∧ g < hi ∧
  ∀ i, i < n → ∃ (gv : Nat) (ys : List Int), L[i * 12 + 3]? = some (.slice (some ⟨gv, 0, none⟩) ys.length ys.length) ∧ lo ≤ gv ∧ gv < hi ∧ ys.length ≤ 1048576 ∧ IB w gv ys 3
section
variable {w W : World} {g n lo hi : Nat}
theorem Shape.below (h : Shape w g n lo hi) (hb : Below w.heap.size w W) : Shape W g n lo hi := by
  obtain ⟨L, h1, h2, h3, h4, h5⟩ := h
  exact ⟨L, blk_below h1 hb, h2, h3, h4, fun i hi => by
    obtain ⟨gv, ys, u1, u2, u3, u4, u5⟩ := h5 i hi
    exact ⟨gv, ys, u1, u2, u3, u4, u5.below hb⟩⟩
theorem Shape.kx {S : Nat → Prop} (h : Shape w g n lo hi) (k : Kx S w W) (hS : ∀ i, lo ≤ i → i < hi → ¬ S i) : Shape W g n lo hi := by
  obtain ⟨L, h1, h2, h3, h4, h5⟩ := h
  exact ⟨L, blk_kx h1 k (hS g h3 h4), h2, h3, h4, fun i hi => by
    obtain ⟨gv, ys, u1, u2, u3, u4, u5⟩ := h5 i hi
    exact ⟨gv, ys, u1, u2, u3, u4, blk_kx u5 k (hS gv u2 u3)⟩⟩
theorem Shape.cell (h : Shape w g n lo hi) {i : Nat} (hi : i < n) {j : Nat} (hj : j < 12) : ∃ u, w.cell? ⟨g, i * 12 + j, none⟩ = some u := by
  obtain ⟨L, h1, h2, _⟩ := h
  have : i * 12 + j < L.length := by omega
  exact ⟨L[i * 12 + j], by rw [blk_cell h1]; simp [this]⟩
theorem Shape.free (h : Shape w g n lo hi) (j : Nat) : w.frozen? ⟨g, j, none⟩ = false := by
  obtain ⟨L, h1, _⟩ := h
  exact blk_frozen h1 j
theorem Shape.vec (h : Shape w g n lo hi) {i : Nat} (hi' : i < n) : ∃ (gv : Nat) (ys : List Int), w.cell? ⟨g, i * 12 + 3, none⟩ = some (.slice (some ⟨gv, 0, none⟩) ys.length ys.length) ∧ lo ≤ gv ∧ gv < hi ∧ ys.length ≤ 1048576 ∧ IB w gv ys 3 := by
  obtain ⟨L, h1, h2, h3, h4, h5⟩ := h
  obtain ⟨gv, ys, u1, u2⟩ := h5 i hi'
  exact ⟨gv, ys, by rw [blk_cell h1]; simpa using u1, u2⟩
theorem Shape.store (h : Shape w g n lo hi) {i : Nat} (hi' : i < n) {j : Nat} (hj : j < 12) (h3 : j ≠ 3) (v : Value) : Shape (w.setCell ⟨g, i * 12 + j, none⟩ v) g n lo hi := by
  obtain ⟨L, h1, h2, hlo, hhi, h5⟩ := h
  refine ⟨L.set (i * 12 + j) v, blk_setL h1 _ _, by simpa using h2, hlo, hhi, fun k hk => ?_⟩
  obtain ⟨gv, ys, u1, u2, u3, u4, u5⟩ := h5 k hk
  refine ⟨gv, ys, ?_, u2, u3, u4, ?_⟩
  · rw [List.getElem?_set_ne (by omega)]; exact u1
  · have hne : gv ≠ g := blk_neT u5 h1 rfl
    exact (Below.heap_setCell _ _ _ _ hne).trans u5
/-- One of its vectors written over. -/
theorem Shape.mark (h : Shape w g n lo hi) {gv : Nat} {ys zs : List Int} (hv : IB w gv ys 3) (k : Kx (fun k => k = gv) w W) (hz : IB W gv zs 3) (hl : zs.length = ys.length) : Shape W g n lo hi := by
  obtain ⟨L, h1, h2, hlo, hhi, h5⟩ := h
  refine ⟨L, blk_kx h1 k (Ne.symm (blk_neT hv h1 rfl)), h2, hlo, hhi, fun i hi' => ?_⟩
  obtain ⟨gu, us, u1, u2, u3, u4, u5⟩ := h5 i hi'
  by_cases e : gu = gv
  · subst e
    have he : us.length = ys.length := by
      have := u5.symm.trans hv
      injection this with this
      injection this with this _ _
      have := congrArg Array.size this
      simpa using this
    refine ⟨gu, zs, ?_, u2, u3, by omega, hz⟩
    rw [hl, ← he]; exact u1
  · exact ⟨gu, us, u1, u2, u3, u4, blk_kx u5 k e⟩
end
end Go.Proofs.Ytideafkiaipnoaa.Q

/- A log's copy, as far as it has come. -/
namespace Go.Proofs.Ytideafkiaipnoaa.Q
set_option linter.unusedVariables false
set_option linter.unusedSimpArgs false
open Go Go.RowKit Go.Proofs.YtideafkiaipnoaaW.PrintWords Go.Proofs.Ytideafkiaipnoaa.Deed
/-- In the block g (for all of os) the first i operations are copied; their vectors are whole blocks from lo on. -/
def Cop (w : World) (lo g : Nat) (os : List Op) (i : Nat) : Prop := ∃ (L : List Value) (V : Nat → Nat), w.heap[g]? = some (.cells L.toArray 67 (0, 0)) ∧ L.length = os.length * 12 ∧ lo ≤ g ∧
  ∀ j o, os[j]? = some o → j < i → lo ≤ V j ∧ (∀ t, t < 12 → L[j * 12 + t]? = (opc o (some ⟨V j, 0, none⟩) o.deps.length)[t]?) ∧ IB w (V j) o.deps 3
section
variable {w W : World} {g lo : Nat} {os : List Op} {i : Nat}
theorem Cop.below (h : Cop w lo g os i) (hb : Below w.heap.size w W) : Cop W lo g os i := by
  obtain ⟨L, V, h1, h2, h3, h4⟩ := h
  exact ⟨L, V, blk_below h1 hb, h2, h3, fun j o ho hj => ⟨(h4 j o ho hj).1, (h4 j o ho hj).2.1, (h4 j o ho hj).2.2.below hb⟩⟩
theorem Cop.start {L : List Value} (h : w.heap[g]? = some (.cells L.toArray 67 (0, 0))) (hl : L.length = os.length * 12) (hlo : lo ≤ g) : Cop w lo g os 0 := ⟨L, fun _ => 0, h, hl, hlo, fun j o _ hj => by omega⟩
theorem Cop.cells (h : Cop w lo g os i) {k : Nat} (hk : k < os.length) : ∀ j, j < 12 → (w.cell? ⟨g, k * 12 + j, none⟩).isSome = true := by
  obtain ⟨L, V, h1, h2, _⟩ := h
  intro j hj
  have : k * 12 + j < L.length := by omega
  rw [blk_cell h1]
  simp [this]
theorem Cop.free (h : Cop w lo g os i) (j : Nat) : w.frozen? ⟨g, j, none⟩ = false := by
  obtain ⟨L, V, h1, _⟩ := h
  exact blk_frozen h1 j
theorem Cop.store (h : Cop w lo g os i) {o : Op} (ho : os[i]? = some o) {gv : Nat} (hv : IB w gv o.deps 3) (hlo : lo ≤ gv) : Cop (w.setCells g (i * 12) (opc o (some ⟨gv, 0, none⟩) o.deps.length)) lo g os (i + 1) := by
  obtain ⟨L, V, h1, h2, h3, h4⟩ := h
  have hi : i < os.length := (List.getElem?_eq_some_iff.1 ho).1
  have hne : gv ≠ g := blk_neT hv h1 rfl
  refine ⟨_, fun j => if j = i then gv else V j, blk_stored _ (i * 12) w L h1 (by simp; omega), by simp; omega, h3, fun j o' ho' hj => ?_⟩
  by_cases e : j = i
  · subst e
    rw [ho] at ho'
    cases ho'
    simp only [if_true]
    refine ⟨hlo, fun t ht => ?_, (setCells_far _ _ _ hne).trans hv⟩
    rw [List.append_assoc, List.getElem?_append_right (by simp; omega), List.getElem?_append_left (by simp; omega)]
    congr 1
    simp
    omega
  · obtain ⟨u1, u2, u3⟩ := h4 j o' ho' (by omega)
    simp only [if_neg e]
    refine ⟨u1, fun t ht => ?_, (setCells_far _ _ _ (blk_neT u3 h1 rfl)).trans u3⟩
    rw [List.append_assoc, List.getElem?_append_left (by simp; omega), List.getElem?_take_of_lt (by omega)]
    exact u2 t ht
theorem Cop.RO (h : Cop w lo g os os.length) : ∃ D, RO w (some ⟨g, 0, none⟩) os D fun j => (os.getD j default).deps.length := by
  obtain ⟨L, V, h1, h2, h3, h4⟩ := h
  refine ⟨fun j => some ⟨V j, 0, none⟩, fun j o ho => ?_⟩
  have hj : j < os.length := (List.getElem?_eq_some_iff.1 ho).1
  have hd : os.getD j default = o := by simp [List.getD_eq_getElem?_getD, ho]
  obtain ⟨u1, u2, u3⟩ := h4 j o ho hj
  refine ⟨rfl, fun t u hu => ?_, u3.RI, by simp only [hd]; omega⟩
  simp only [hd] at hu
  have ht : t < 12 := by have := (List.getElem?_eq_some_iff.1 hu).1; simpa using this
  show w.cell? ((⟨g, 0, none⟩ : Addr).add (j * 12 + t)) = some u
  rw [add_mk, Nat.zero_add, blk_cell h1]
  simp only [List.getElem?_toArray]
  rw [u2 t ht]
  exact hu
end
theorem x_makeO {P : Program} {ρ : Operand → Value} {o : Oper} {w : World} {x y : Operand} {t e : TypeId} {a : Int} {n size bytes : Nat} {z : Value} (ho : o.op = .makeSlice t x y) (hx : ρ x = .int .i64 a) (hy : ρ y = .int .i64 a) (ht : P.underlying t = some (.slice e)) (hi : (P.info? e).map (fun i => (i.zero, i.size, i.bytes)) = some (some z, size, bytes)) (ha : a = (n : Int)) (hn : n ≤ 1048576) (hs : size ≤ 1024) (hb : bytes ≤ 1048576) :
    ∃ L : List Value, L.length = n * size ∧ (execOp ρ o).run P w = .ok (.value (.slice (some ⟨w.heap.size, 0, none⟩) n n)) (w.alloc (.cells L.toArray e)) := by
  obtain ⟨i, h1, h2⟩ := Option.map_eq_some_iff.1 hi
  simp only [Prod.mk.injEq] at h2
  obtain ⟨h2, h3, h4⟩ := h2
  subst ha
  have hbn : (bytes : Int) * (n : Int) ≤ 1048576 * 1048576 := Int.mul_le_mul (by omega) (by omega) (by omega) (by omega)
  have hr := run_make (P := P) w t e i _ ht h1 h2 .i64 .i64 n n (by omega) (by omega) (by rw [h4]; omega) (by omega)
  rw [h3] at hr
  simp only [Int.toNat_natCast] at hr
  refine ⟨(madeCells z.cells (n * size)).toList, by simpa using size_madeCells _ _, ?_⟩
  unfold execOp
  simp [ho, hx, hy, hr]
theorem rmakeO {P : Program} {ops : Array Oper} {l : List FS} {dead : List (List Nat)} {k : Nat} {o : Oper} {ac : Act} {W : World} {x y : Operand} {t e : TypeId} {a : Int} {n size bytes : Nat} {z : Value} (hgr : AllGrow (l.map FS.H)) (hg : o.guard = none) (ho : o.op = .makeSlice t x y) (hx : ac.eval x = .int .i64 a) (hy : ac.eval y = .int .i64 a) (ht : P.underlying t = some (.slice e)) (hi : (P.info? e).map (fun i => (i.zero, i.size, i.bytes)) = some (some z, size, bytes)) (ha : a = (n : Int)) (hn : n ≤ 1048576) (hs : size ≤ 1024) (hb : bytes ≤ 1048576)
    (hF : ∀ (L : List Value) (W' : World), L.length = n * size → W'.heap[W.heap.size]? = some (.cells L.toArray e (0, 0)) → LH l k (upd (sl ac) o.dst (.slice (some ⟨W.heap.size, 0, none⟩) n n)) W') : Runs P ops o ac W (OweL l dead k o (sl ac) W) := by
  obtain ⟨L, hL, hr⟩ := x_makeO (P := P) (w := W) (ρ := ac.eval) ho hx hy ht hi ha hn hs hb
  exact runs_val (wanted_none hg) hr (owe_grow hgr (below_alloc (Below.refl _ _) _) (hF L _ hL (heap_alloc_new _ _)))
end Go.Proofs.Ytideafkiaipnoaa.Q

/- Functions walked. -/
namespace Go.Proofs.Ytideafkiaipnoaa.Q
open Go Go.RowKit Go.Proofs.YtideafkiaipnoaaW.PrintWords Go.Proofs.YtideafkiaipnoaaW.PrintLast Go.Proofs.Ytideafkiaipnoaa.Deed
set_option maxRecDepth 100000
set_option linter.unusedVariables false
set_option linter.unusedSimpArgs false
theorem list_eq {xs ys : List Int} (hl : xs.length = ys.length) (h : ∀ j : Int, 0 ≤ j → j < xs.length → gi xs j = gi ys j) : xs = ys := by
  apply List.ext_getElem hl
  intro i h1 h2
  have := h i (by omega) (by omega)
  simpa [gi, List.getD_eq_getElem?_getD, h1, h2] using this
theorem beq_ne {xs ys : List Int} {j : Int} (h : gi xs j ≠ gi ys j) : (xs == ys) = false := by
  rw [beq_eq_false_iff_ne]
  rintro rfl
  exact h rfl
theorem beq_len {xs ys : List Int} (h : xs.length ≠ ys.length) : (xs == ys) = false := by
  rw [beq_eq_false_iff_ne]
  rintro rfl
  exact h rfl
set_option maxHeartbeats 2000000 in
theorem eqI_calls (A : Option Addr) (xs : List Int) (c : Nat) (E : Option Addr) (ys : List Int) (d : Nat) (w : World) (HR1 : RI w A xs) (HR2 : RI w E ys) (hn : xs.length ≤ 1099511627776) : Calls Try.prog 16 #[.slice A xs.length c, .slice E ys.length d] w fun e w' => e = .returned (.bool (xs == ys)) ∧ Below w.heap.size w w' := by
  refine calls_of_wp Try.func16 rfl ?_
  refine enter_ (N := 26) rfl ?_
  rintro a0 hN hD ⟨s0, s1, -⟩
  have HB : Below w.heap.size w w := Below.refl _ _
  refine wp_seq ?_
  refine deedL [.eq 4 (.bool false), .eq 0 (.slice A xs.length c), .eq 1 (.slice E ys.length d), .w (Below w.heap.size w)] 26 [[]] [] [1, 2, 3] hM hN hD (by kernel_rfl) ⟨s0, s1, ⟨Below.refl _ _, below_drew (Below.refl _ _)⟩, trivial⟩ ⟨fun _ _ hb h => below_step h hb, trivial⟩ (fun hgrow => ⟨fun _ _ _ => rv rfl (x_assign rfl rfl) rfl, trivial⟩) ?_
  clear s0 s1
  clear hN hD
  rintro a1 w1 hN hD ⟨s0, s1, hGR, -⟩
  replace HB := below_step HB hGR
  clear hGR
  show Code.wp _ _ _ _ _
  refine wp_seq ?_
  refine wp_seq ?_
  refine deedL [.eq 6 (.slice A xs.length c), .eq 7 (.int .i64 (xs.length : Int)), .eq 8 (.slice E ys.length d), .eq 9 (.int .i64 (ys.length : Int)), .eq 10 (.bool ((xs.length : Int) != (ys.length : Int))), .eq 0 (.slice A xs.length c), .eq 1 (.slice E ys.length d), .w (Below w1.heap.size w1)] 26 [[5], [0], [6], [2], [1, 3]] [] [4, 5, 6, 7] hM hN hD (by kernel_rfl) ⟨s0, s1, ⟨Below.refl _ _, below_drew (Below.refl _ _)⟩, trivial⟩ ⟨fun _ _ hb h => below_step h hb, trivial⟩ (fun hgrow => ⟨fun _ _ h => rv rfl (x_move rfl h.1) rfl,
    fun _ _ h => rv rfl (x_len_slice rfl Try.underlying24 h.1) rfl,
    fun _ _ h => rv rfl (x_move rfl h.1) rfl,
    fun _ _ h => rv rfl (x_len_slice rfl Try.underlying24 h.1) rfl,
    fun _ _ h => rv rfl (x_neq rfl h.1 h.2.1) rfl, trivial⟩) ?_
  clear s0 s1
  clear hN hD
  rintro a2 w2 hN hD ⟨s10, s0, s1, hGR, -⟩
  replace HB := below_step HB hGR
  clear hGR
  show Code.wp _ _ _ _ _
  refine wp_cond (t := (xs.length : Int) != (ys.length : Int)) s10 ?_
  rcases Bool.eq_false_or_eq_true ((xs.length : Int) != (ys.length : Int)) with cd3 | cd3
  · rw [cd3]
    show Code.wp _ _ _ _ _
    have pd3 := cd3
    simp at pd3
    refine wp_seq ?_
    refine deedL [.eq 4 (.bool false), .w (Below w2.heap.size w2)] 26 [[]] [] [0, 1] hM hN hD (by kernel_rfl) ⟨⟨Below.refl _ _, below_drew (Below.refl _ _)⟩, trivial⟩ ⟨fun _ _ hb h => below_step h hb, trivial⟩ (fun hgrow => ⟨fun _ _ _ => rv rfl (x_assign rfl rfl) rfl, trivial⟩) ?_
    clear s0 s1 s10
    clear hN hD
    rintro a4 w4 hN hD ⟨s4, hGR, -⟩
    replace HB := below_step HB hGR
    clear hGR
    show Code.wp _ _ _ _ _
    refine wp_ret (then_ret ?_)
    refine bodyPost_ret (results_single rfl (vtmp s4 .nil)) hD ?_
    exact ⟨by rw [beq_len (fun h => pd3 (by rw [h]))], HB⟩
  · rw [cd3]
    show Code.wp _ _ _ _ _
    have pd3 := cd3
    simp at pd3
    have hl : (xs.length : Int) = ys.length := by simpa using cd3
    refine wp_skip ?_
    show Code.wp _ _ _ _ _
    refine wp_seq ?_
    refine wp_seq ?_
    refine deedL [.eq 5 (.int .i64 0), .eq 0 (.slice A xs.length c), .eq 1 (.slice E ys.length d), .w (Below w2.heap.size w2)] 26 [[]] [] [0, 1, 2, 3] hM hN hD (by kernel_rfl) ⟨s0, s1, ⟨Below.refl _ _, below_drew (Below.refl _ _)⟩, trivial⟩ ⟨fun _ _ hb h => below_step h hb, trivial⟩ (fun hgrow => ⟨fun _ _ _ => rv rfl (x_assign rfl rfl) rfl, trivial⟩) ?_
    clear s0 s1 s10
    clear hN hD
    rintro a5 w5 hN hD ⟨s5, s0, s1, hGR, -⟩
    replace HB := below_step HB hGR
    clear hGR
    show Code.wp _ _ _ _ _
    refine wp_block ?_
    refine wp_loopN (fun n_ q_ w_ => ∃ (i : Int), (q_.tmps.size = 26) ∧ (q_.defers = []) ∧ (sl q_ 0 = .slice A xs.length c) ∧ (sl q_ 1 = .slice E ys.length d) ∧ (sl q_ 5 = .int .i64 i) ∧ (Below w.heap.size w w_) ∧ (0 ≤ i) ∧ (i ≤ xs.length) ∧ (∀ j : Int, 0 ≤ j → j < i → gi xs j = gi ys j) ∧ (n_ = (xs.length - i).toNat)) ((fun (i : Int) => (xs.length - i).toNat) 0) ?_ ?_
    · exact ⟨0, hN, hD, s0, s1, s5, HB, (by omega), (by omega), (by intro j u v; omega), rfl⟩
    clear s0 s1 s5 HB hN hD
    rintro n_6 a6 w6 ⟨i, hN, hD, s0, s1, s5, HB, hi0, hi1, hi, hmeas⟩
    refine wp_seq ?_
    refine wp_seq ?_
    refine deedL [.eq 11 (.int .i64 i), .eq 12 (.slice A xs.length c), .eq 13 (.int .i64 (xs.length : Int)), .eq 14 (.bool (decide (i < (xs.length : Int)))), .eq 0 (.slice A xs.length c), .eq 1 (.slice E ys.length d), .eq 5 (.int .i64 i), .w (Below w6.heap.size w6)] 26 [[6], [4], [1], [0, 2]] [] [3, 4, 5, 6, 7] hM hN hD (by kernel_rfl) ⟨s0, s1, s5, ⟨Below.refl _ _, below_drew (Below.refl _ _)⟩, trivial⟩ ⟨fun _ _ hb h => below_step h hb, trivial⟩ (fun hgrow => ⟨fun _ _ h => rv rfl (x_move rfl h.1) rfl,
      fun _ _ h => rv rfl (x_move rfl h.1) rfl,
      fun _ _ h => rv rfl (x_len_slice rfl Try.underlying24 h.1) rfl,
      fun _ _ h => rv rfl (x_lss rfl h.1 h.2.1) rfl, trivial⟩) ?_
    clear s0 s1 s5
    clear hN hD
    rintro a7 w7 hN hD ⟨s14, s0, s1, s5, hGR, -⟩
    replace HB := below_step HB hGR
    clear hGR
    show Code.wp _ _ _ _ _
    refine wp_cond (t := decide (i < (xs.length : Int))) s14 ?_
    rcases Bool.eq_false_or_eq_true (decide (i < (xs.length : Int))) with cd8 | cd8
    · rw [cd8]
      show Code.wp _ _ _ _ _
      have pd8 := of_decide_eq_true cd8
      refine wp_skip ?_
      show Code.wp _ _ _ _ _
      refine wp_seq ?_
      refine wp_block ?_
      refine wp_seq ?_
      refine deedL [.eq 17 (.slice A xs.length c), .eq 18 (.int .i64 i), .eq 19 (.pointer (some ((adr A).add (i.toNat * 1)))), .eq 20 (.int .i64 (gi xs i)), .eq 21 (.slice E ys.length d), .eq 22 (.int .i64 i), .eq 23 (.pointer (some ((adr E).add (i.toNat * 1)))), .eq 24 (.int .i64 (gi ys i)), .eq 25 (.bool ((gi xs i) != (gi ys i))), .eq 0 (.slice A xs.length c), .eq 1 (.slice E ys.length d), .eq 5 (.int .i64 i), .w (Below w7.heap.size w7)] 26 [[9], [11], [0, 1], [2, 12], [10], [11], [4, 5], [6, 12], [3, 7]] [] [8, 9, 10, 11, 12] hM hN hD (by kernel_rfl) ⟨s0, s1, s5, ⟨Below.refl _ _, below_drew (Below.refl _ _)⟩, trivial⟩ ⟨fun _ _ hb h => below_step h hb, trivial⟩ (fun hgrow => ⟨fun _ _ h => rv rfl (x_move rfl h.1) rfl,
        fun _ _ h => rv rfl (x_move rfl h.1) rfl,
        fun _ _ h => rv rfl (x_index_at rfl h.1 h.2.1 Try.underlying24 sz3 (by omega) (by omega) (RI.ad HR1 i (by omega) (by omega))) rfl,
        fun _ _ h => rv rfl (x_load1 rfl h.1 Try.underlying3 rfl (RI.at_ HR1 (below_step HB h.2.1) (by omega) (by omega))) rfl,
        fun _ _ h => rv rfl (x_move rfl h.1) rfl,
        fun _ _ h => rv rfl (x_move rfl h.1) rfl,
        fun _ _ h => rv rfl (x_index_at rfl h.1 h.2.1 Try.underlying24 sz3 (by omega) (by omega) (RI.ad HR2 i (by omega) (by omega))) rfl,
        fun _ _ h => rv rfl (x_load1 rfl h.1 Try.underlying3 rfl (RI.at_ HR2 (below_step HB h.2.1) (by omega) (by omega))) rfl,
        fun _ _ h => rv rfl (x_neq rfl h.1 h.2.1) rfl, trivial⟩) ?_
      clear s0 s1 s5 s14
      clear hN hD
      rintro a9 w9 hN hD ⟨s25, s0, s1, s5, hGR, -⟩
      replace HB := below_step HB hGR
      clear hGR
      show Code.wp _ _ _ _ _
      refine wp_cond (t := (gi xs i) != (gi ys i)) s25 ?_
      rcases Bool.eq_false_or_eq_true ((gi xs i) != (gi ys i)) with cd10 | cd10
      · rw [cd10]
        show Code.wp _ _ _ _ _
        have pd10 := cd10
        simp at pd10
        have hs : gi xs i ≠ gi ys i := by simpa using cd10
        refine wp_seq ?_
        refine deedL [.eq 4 (.bool false), .w (Below w9.heap.size w9)] 26 [[]] [] [0, 1] hM hN hD (by kernel_rfl) ⟨⟨Below.refl _ _, below_drew (Below.refl _ _)⟩, trivial⟩ ⟨fun _ _ hb h => below_step h hb, trivial⟩ (fun hgrow => ⟨fun _ _ _ => rv rfl (x_assign rfl rfl) rfl, trivial⟩) ?_
        clear s0 s1 s5 s25
        clear hN hD
        rintro a11 w11 hN hD ⟨s4, hGR, -⟩
        replace HB := below_step HB hGR
        clear hGR
        show Code.wp _ _ _ _ _
        refine wp_ret (blk_ret (then_ret (then_ret (blk_ret (then_ret ?_)))))
        refine bodyPost_ret (results_single rfl (vtmp s4 .nil)) hD ?_
        exact ⟨by rw [beq_ne (j := i) hs], HB⟩
      · rw [cd10]
        show Code.wp _ _ _ _ _
        have pd10 := cd10
        simp at pd10
        have hs : gi xs i = gi ys i := by simpa using cd10
        refine wp_skip ?_
        show Code.wp _ _ _ _ _
        refine deedL [.eq 15 (.int .i64 i), .eq 16 (.int .i64 (i + 1)), .eq 5 (.int .i64 (i + 1)), .eq 0 (.slice A xs.length c), .eq 1 (.slice E ys.length d), .eq 5 (.int .i64 i), .w (Below w9.heap.size w9)] 26 [[5], [0], [1]] [[], [], [5]] [2, 3, 4, 6] hM hN hD (by kernel_rfl) ⟨s0, s1, s5, ⟨Below.refl _ _, below_drew (Below.refl _ _)⟩, trivial⟩ ⟨fun _ _ hb h => below_step h hb, trivial⟩ (fun hgrow => ⟨fun _ _ h => rv rfl (x_move rfl h.1) rfl,
          fun _ _ h => rv rfl (x_add' rfl h.1 rfl (by omega)) rfl,
          fun _ _ h => rv rfl (x_assign rfl h.1) rfl, trivial⟩) ?_
        clear s0 s1 s5 s25
        clear hN hD
        rintro a12 w12 hN hD ⟨s5, s0, s1, hGR, -⟩
        replace HB := below_step HB hGR
        clear hGR
        show ∃ m, m < n_6 ∧ _
        exact ⟨_, (by omega), ⟨(i + 1), hN, hD, s0, s1, s5, HB, (by omega), (by omega), (by intro j u v; by_cases e : j = i; (subst e; exact hs); exact hi j u (by omega)), rfl⟩⟩
    · rw [cd8]
      show Code.wp _ _ _ _ _
      have pd8 := of_decide_eq_false cd8
      refine wp_exit (then_exit (then_exit (at_exit ?_)))
      show Code.wp _ _ _ _ _
      refine wp_seq ?_
      refine deedL [.eq 4 (.bool true), .w (Below w7.heap.size w7)] 26 [[]] [] [0, 1] hM hN hD (by kernel_rfl) ⟨⟨Below.refl _ _, below_drew (Below.refl _ _)⟩, trivial⟩ ⟨fun _ _ hb h => below_step h hb, trivial⟩ (fun hgrow => ⟨fun _ _ _ => rv rfl (x_assign rfl rfl) rfl, trivial⟩) ?_
      clear s0 s1 s5 s14
      clear hN hD
      rintro a13 w13 hN hD ⟨s4, hGR, -⟩
      replace HB := below_step HB hGR
      clear hGR
      show Code.wp _ _ _ _ _
      refine wp_ret ?_
      refine bodyPost_ret (results_single rfl (vtmp s4 .nil)) hD ?_
      exact ⟨by rw [show (xs == ys) = true from beq_iff_eq.2 (list_eq (by omega) (fun j u v => hi j u (by omega)))], HB⟩
/-- The marks k, k + 1, .. -/
def mk (k : Int) (n : Nat) : List Int := (List.range n).map fun (i : Nat) => k + i
theorem mk_length (k : Int) (n : Nat) : (mk k n).length = n := by simp [mk]
theorem gi_mk {k : Int} {n : Nat} {i : Int} (h0 : 0 ≤ i) (h1 : i < n) : gi (mk k n) i = k + i := by
  have : i.toNat < n := by omega
  unfold gi mk
  simp [List.getD_eq_getElem?_getD, this]
  omega
/-- What heldIntS answers. -/
def held (xs : List Int) (k : Int) : Int := if xs = mk k xs.length then k + xs.length else -1
set_option maxHeartbeats 2000000 in
theorem heldI_calls (A : Option Addr) (xs : List Int) (c : Nat) (k : Int) (w : World) (HR1 : RI w A xs) (hk0 : 0 ≤ k) (hk1 : k + xs.length ≤ 4503599627370496) : Calls Try.prog 20 #[.slice A xs.length c, .int .i64 k] w fun e w' => e = .returned (.int .i64 (held xs k)) ∧ Below w.heap.size w w' := by
  refine calls_of_wp Try.func20 rfl ?_
  refine enter_ (N := 21) rfl ?_
  rintro a0 hN hD ⟨s0, s1, -⟩
  have HB : Below w.heap.size w w := Below.refl _ _
  refine wp_seq ?_
  refine deedL [.eq 4 (.int .i64 0), .eq 0 (.slice A xs.length c), .eq 1 (.int .i64 k), .w (Below w.heap.size w)] 21 [[]] [] [1, 2, 3] hM hN hD (by kernel_rfl) ⟨s0, s1, ⟨Below.refl _ _, below_drew (Below.refl _ _)⟩, trivial⟩ ⟨fun _ _ hb h => below_step h hb, trivial⟩ (fun hgrow => ⟨fun _ _ _ => rv rfl (x_assign rfl rfl) rfl, trivial⟩) ?_
  clear s0 s1
  clear hN hD
  rintro a1 w1 hN hD ⟨s0, s1, hGR, -⟩
  replace HB := below_step HB hGR
  clear hGR
  show Code.wp _ _ _ _ _
  refine wp_seq ?_
  refine wp_seq ?_
  refine deedL [.eq 5 (.int .i64 0), .eq 0 (.slice A xs.length c), .eq 1 (.int .i64 k), .w (Below w1.heap.size w1)] 21 [[]] [] [0, 1, 2, 3] hM hN hD (by kernel_rfl) ⟨s0, s1, ⟨Below.refl _ _, below_drew (Below.refl _ _)⟩, trivial⟩ ⟨fun _ _ hb h => below_step h hb, trivial⟩ (fun hgrow => ⟨fun _ _ _ => rv rfl (x_assign rfl rfl) rfl, trivial⟩) ?_
  clear s0 s1
  clear hN hD
  rintro a2 w2 hN hD ⟨s5, s0, s1, hGR, -⟩
  replace HB := below_step HB hGR
  clear hGR
  show Code.wp _ _ _ _ _
  refine wp_block ?_
  refine wp_loopN (fun n_ q_ w_ => ∃ (i : Int), (q_.tmps.size = 21) ∧ (q_.defers = []) ∧ (sl q_ 0 = .slice A xs.length c) ∧ (sl q_ 1 = .int .i64 (k + i)) ∧ (sl q_ 5 = .int .i64 i) ∧ (Below w.heap.size w w_) ∧ (0 ≤ i) ∧ (i ≤ xs.length) ∧ (∀ j : Int, 0 ≤ j → j < i → gi xs j = k + j) ∧ (n_ = (xs.length - i).toNat)) ((fun (i : Int) => (xs.length - i).toNat) 0) ?_ ?_
  · exact ⟨0, hN, hD, s0, (by rw [s1]; congr 1; omega), s5, HB, (by omega), (by omega), (by intro j u v; omega), rfl⟩
  clear s0 s1 s5 HB hN hD
  rintro n_3 a3 w3 ⟨i, hN, hD, s0, s1, s5, HB, hi0, hi1, hi, hmeas⟩
  refine wp_seq ?_
  refine wp_seq ?_
  refine deedL [.eq 6 (.int .i64 i), .eq 7 (.slice A xs.length c), .eq 8 (.int .i64 (xs.length : Int)), .eq 9 (.bool (decide (i < (xs.length : Int)))), .eq 0 (.slice A xs.length c), .eq 1 (.int .i64 (k + i)), .eq 5 (.int .i64 i), .w (Below w3.heap.size w3)] 21 [[6], [4], [1], [0, 2]] [] [3, 4, 5, 6, 7] hM hN hD (by kernel_rfl) ⟨s0, s1, s5, ⟨Below.refl _ _, below_drew (Below.refl _ _)⟩, trivial⟩ ⟨fun _ _ hb h => below_step h hb, trivial⟩ (fun hgrow => ⟨fun _ _ h => rv rfl (x_move rfl h.1) rfl,
    fun _ _ h => rv rfl (x_move rfl h.1) rfl,
    fun _ _ h => rv rfl (x_len_slice rfl Try.underlying24 h.1) rfl,
    fun _ _ h => rv rfl (x_lss rfl h.1 h.2.1) rfl, trivial⟩) ?_
  clear s0 s1 s5
  clear hN hD
  rintro a4 w4 hN hD ⟨s9, s0, s1, s5, hGR, -⟩
  replace HB := below_step HB hGR
  clear hGR
  show Code.wp _ _ _ _ _
  refine wp_cond (t := decide (i < (xs.length : Int))) s9 ?_
  rcases Bool.eq_false_or_eq_true (decide (i < (xs.length : Int))) with cd5 | cd5
  · rw [cd5]
    show Code.wp _ _ _ _ _
    have pd5 := of_decide_eq_true cd5
    refine wp_skip ?_
    show Code.wp _ _ _ _ _
    refine wp_seq ?_
    refine wp_block ?_
    refine wp_seq ?_
    refine wp_seq ?_
    refine deedL [.eq 12 (.slice A xs.length c), .eq 13 (.int .i64 i), .eq 14 (.pointer (some ((adr A).add (i.toNat * 1)))), .eq 15 (.int .i64 (gi xs i)), .eq 16 (.int .i64 (k + i)), .eq 17 (.bool ((gi xs i) != (k + i))), .eq 0 (.slice A xs.length c), .eq 1 (.int .i64 (k + i)), .eq 5 (.int .i64 i), .w (Below w4.heap.size w4)] 21 [[6], [8], [0, 1], [2, 9], [7], [3, 4]] [] [5, 6, 7, 8, 9] hM hN hD (by kernel_rfl) ⟨s0, s1, s5, ⟨Below.refl _ _, below_drew (Below.refl _ _)⟩, trivial⟩ ⟨fun _ _ hb h => below_step h hb, trivial⟩ (fun hgrow => ⟨fun _ _ h => rv rfl (x_move rfl h.1) rfl,
      fun _ _ h => rv rfl (x_move rfl h.1) rfl,
      fun _ _ h => rv rfl (x_index_at rfl h.1 h.2.1 Try.underlying24 sz3 (by omega) (by omega) (RI.ad HR1 i (by omega) (by omega))) rfl,
      fun _ _ h => rv rfl (x_load1 rfl h.1 Try.underlying3 rfl (RI.at_ HR1 (below_step HB h.2.1) (by omega) (by omega))) rfl,
      fun _ _ h => rv rfl (x_move rfl h.1) rfl,
      fun _ _ h => rv rfl (x_neq rfl h.1 h.2.1) rfl, trivial⟩) ?_
    clear s0 s1 s5 s9
    clear hN hD
    rintro a6 w6 hN hD ⟨s17, s0, s1, s5, hGR, -⟩
    replace HB := below_step HB hGR
    clear hGR
    show Code.wp _ _ _ _ _
    refine wp_cond (t := (gi xs i) != (k + i)) s17 ?_
    rcases Bool.eq_false_or_eq_true ((gi xs i) != (k + i)) with cd7 | cd7
    · rw [cd7]
      show Code.wp _ _ _ _ _
      have pd7 := cd7
      simp at pd7
      have hs : ¬ gi xs i = k + i := by simpa using cd7
      refine wp_seq ?_
      refine deedL [.eq 4 (.int .i64 (-1)), .w (Below w6.heap.size w6)] 21 [[]] [] [0, 1] hM hN hD (by kernel_rfl) ⟨⟨Below.refl _ _, below_drew (Below.refl _ _)⟩, trivial⟩ ⟨fun _ _ hb h => below_step h hb, trivial⟩ (fun hgrow => ⟨fun _ _ _ => rv rfl (x_assign rfl rfl) rfl, trivial⟩) ?_
      clear s0 s1 s5 s17
      clear hN hD
      rintro a8 w8 hN hD ⟨s4, hGR, -⟩
      replace HB := below_step HB hGR
      clear hGR
      show Code.wp _ _ _ _ _
      refine wp_ret (then_ret (blk_ret (then_ret (then_ret (blk_ret (then_ret ?_))))))
      refine bodyPost_ret (results_single rfl (vtmp s4 .nil)) hD ?_
      exact ⟨by unfold held; rw [if_neg (fun h => hs (by have := gi_mk (k := k) (n := xs.length) hi0 (by omega); rwa [← h] at this))], HB⟩
    · rw [cd7]
      show Code.wp _ _ _ _ _
      have pd7 := cd7
      simp at pd7
      have hs : gi xs i = k + i := by simpa using cd7
      refine wp_skip ?_
      show Code.wp _ _ _ _ _
      refine deedL [.eq 18 (.int .i64 (k + i)), .eq 19 (.int .i64 (k + i + 1)), .eq 1 (.int .i64 (k + i + 1)), .eq 0 (.slice A xs.length c), .eq 1 (.int .i64 (k + i)), .eq 5 (.int .i64 i), .w (Below w6.heap.size w6)] 21 [[4], [0], [1]] [[], [], [4]] [2, 3, 5, 6] hM hN hD (by kernel_rfl) ⟨s0, s1, s5, ⟨Below.refl _ _, below_drew (Below.refl _ _)⟩, trivial⟩ ⟨fun _ _ hb h => below_step h hb, trivial⟩ (fun hgrow => ⟨fun _ _ h => rv rfl (x_move rfl h.1) rfl,
        fun _ _ h => rv rfl (x_add' rfl h.1 rfl (by omega)) rfl,
        fun _ _ h => rv rfl (x_assign rfl h.1) rfl, trivial⟩) ?_
      clear s0 s1 s5 s17
      clear hN hD
      rintro a9 w9 hN hD ⟨s1, s0, s5, hGR, -⟩
      replace HB := below_step HB hGR
      clear hGR
      show Code.wp _ _ _ _ _
      refine deedL [.eq 10 (.int .i64 i), .eq 11 (.int .i64 (i + 1)), .eq 5 (.int .i64 (i + 1)), .eq 0 (.slice A xs.length c), .eq 1 (.int .i64 (k + i + 1)), .eq 5 (.int .i64 i), .w (Below w9.heap.size w9)] 21 [[5], [0], [1]] [[], [], [5]] [2, 3, 4, 6] hM hN hD (by kernel_rfl) ⟨s0, s1, s5, ⟨Below.refl _ _, below_drew (Below.refl _ _)⟩, trivial⟩ ⟨fun _ _ hb h => below_step h hb, trivial⟩ (fun hgrow => ⟨fun _ _ h => rv rfl (x_move rfl h.1) rfl,
        fun _ _ h => rv rfl (x_add' rfl h.1 rfl (by omega)) rfl,
        fun _ _ h => rv rfl (x_assign rfl h.1) rfl, trivial⟩) ?_
      clear s0 s5 s1
      clear hN hD
      rintro a10 w10 hN hD ⟨s5, s0, s1, hGR, -⟩
      replace HB := below_step HB hGR
      clear hGR
      show ∃ m, m < n_3 ∧ _
      exact ⟨_, (by omega), ⟨(i + 1), hN, hD, s0, (by rw [s1]; congr 1; omega), s5, HB, (by omega), (by omega), (by intro j u v; by_cases e : j = i; (subst e; exact hs); exact hi j u (by omega)), rfl⟩⟩
  · rw [cd5]
    show Code.wp _ _ _ _ _
    have pd5 := of_decide_eq_false cd5
    refine wp_exit (then_exit (then_exit (at_exit ?_)))
    show Code.wp _ _ _ _ _
    refine wp_seq ?_
    refine deedL [.eq 20 (.int .i64 (k + i)), .eq 4 (.int .i64 (k + i)), .eq 1 (.int .i64 (k + i)), .w (Below w4.heap.size w4)] 21 [[2], [0]] [] [1, 2, 3] hM hN hD (by kernel_rfl) ⟨s1, ⟨Below.refl _ _, below_drew (Below.refl _ _)⟩, trivial⟩ ⟨fun _ _ hb h => below_step h hb, trivial⟩ (fun hgrow => ⟨fun _ _ h => rv rfl (x_move rfl h.1) rfl,
      fun _ _ h => rv rfl (x_assign rfl h.1) rfl, trivial⟩) ?_
    clear s0 s1 s5 s9
    clear hN hD
    rintro a11 w11 hN hD ⟨s4, s1, hGR, -⟩
    replace HB := below_step HB hGR
    clear hGR
    show Code.wp _ _ _ _ _
    refine wp_ret ?_
    refine bodyPost_ret (results_single rfl (vtmp s4 .nil)) hD ?_
    exact ⟨by unfold held; rw [if_pos (list_eq (mk_length _ _).symm (fun j u v => by rw [gi_mk u (by omega)]; exact hi j u (by omega)))]; congr 3; omega, HB⟩
end Go.Proofs.Ytideafkiaipnoaa.Q

/- Functions walked. -/
namespace Go.Proofs.Ytideafkiaipnoaa.Q
open Go Go.RowKit Go.Proofs.YtideafkiaipnoaaW.PrintWords Go.Proofs.YtideafkiaipnoaaW.PrintLast Go.Proofs.Ytideafkiaipnoaa.Deed
set_option maxRecDepth 100000
set_option linter.unusedVariables false
set_option linter.unusedSimpArgs false
/-- n integers that may be written: at the head of the block g, or none. -/
def WI (w : World) (g : Nat) (A : Option Addr) (n : Nat) : Prop := n = 0 ∨ A = some ⟨g, 0, none⟩ ∧ ∃ L : List Value, w.heap[g]? = some (.cells L.toArray 3 (0, 0)) ∧ n ≤ L.length
/-- The first i of them are marks. -/
def MI (w : World) (g : Nat) (A : Option Addr) (n : Nat) (k i : Int) : Prop := n = 0 ∨ A = some ⟨g, 0, none⟩ ∧ ∃ L : List Value, w.heap[g]? = some (.cells L.toArray 3 (0, 0)) ∧ n ≤ L.length ∧ ∀ j : Int, 0 ≤ j → j < i → L[j.toNat]? = some (.int .i64 (k + j))
theorem WI.start {w : World} {g : Nat} {A : Option Addr} {n : Nat} (h : WI w g A n) (k : Int) : MI w g A n k 0 := by
  rcases h with h | ⟨h1, L, h2, h3⟩
  · exact .inl h
  · exact .inr ⟨h1, L, h2, h3, fun j u v => by omega⟩
theorem MI.below {w W : World} {g : Nat} {A : Option Addr} {n : Nat} {k i : Int} (h : MI w g A n k i) (hb : Below w.heap.size w W) : MI W g A n k i := by
  rcases h with h | ⟨h1, L, h2, h3⟩
  · exact .inl h
  · exact .inr ⟨h1, L, blk_below h2 hb, h3⟩
theorem MI.at_ {w : World} {g : Nat} {A : Option Addr} {n : Nat} {k i : Int} (h : MI w g A n k i) {j : Int} (h0 : 0 ≤ j) (h1 : j < n) : A = some (adr A) ∧ (adr A).add (j.toNat * 1) = ⟨g, j.toNat, none⟩ ∧ (∃ u, w.cell? ⟨g, j.toNat, none⟩ = some u) ∧ w.frozen? ⟨g, j.toNat, none⟩ = false := by
  rcases h with h | ⟨h2, L, h3, h4, _⟩
  · omega
  · subst h2
    have : j.toNat < L.length := by omega
    exact ⟨rfl, by show (⟨g, 0, none⟩ : Addr).add _ = _; rw [add_mk]; simp, ⟨L[j.toNat], by rw [blk_cell h3]; simp [this]⟩, blk_frozen h3 _⟩
theorem MI.set {w : World} {g : Nat} {A : Option Addr} {n : Nat} {k i : Int} (h : MI w g A n k i) (h0 : 0 ≤ i) (h1 : i < n) : MI (w.setCell ⟨g, i.toNat, none⟩ (.int .i64 (k + i))) g A n k (i + 1) := by
  rcases h with h | ⟨h2, L, h3, h4, h5⟩
  · omega
  · refine .inr ⟨h2, _, blk_setL h3 _ _, by simpa using h4, fun j u v => ?_⟩
    by_cases e : j = i
    · subst e
      rw [List.getElem?_set_self (by omega)]
    · rw [List.getElem?_set_ne (by omega)]
      exact h5 j u (by omega)
theorem MI.RI {w : World} {g : Nat} {A : Option Addr} {n : Nat} {k : Int} (h : MI w g A n k n) : RI w A (mk k n) := by
  intro i x hx
  have hi : i < n := by have := (List.getElem?_eq_some_iff.1 hx).1; rwa [mk_length] at this
  rcases h with h | ⟨h2, L, h3, h4, h5⟩
  · omega
  · subst h2
    refine ⟨rfl, ?_⟩
    show w.cell? ((⟨g, 0, none⟩ : Addr).add i) = _
    rw [add_mk, Nat.zero_add, blk_cell h3]
    have := h5 i (by omega) (by omega)
    have hx' : x = k + i := by
      unfold mk at hx
      rw [List.getElem?_map, List.getElem?_range hi] at hx
      simpa using hx.symm
    rw [hx']
    simpa using this
set_option maxHeartbeats 2000000 in
theorem markI_calls (g : Nat) (A : Option Addr) (n c : Nat) (k : Int) (w : World) (HW : WI w g A n) (hk0 : 0 ≤ k) (hk1 : k + n ≤ 4503599627370496) : Calls Try.prog 19 #[.slice A n c, .int .i64 k] w fun e w' => e = .returned (.int .i64 (k + n)) ∧ MI w' g A n k n ∧ Kx (fun k => k = g) w w' := by
  refine calls_of_wp Try.func19 rfl ?_
  refine enter_ (N := 19) rfl ?_
  rintro a0 hN hD ⟨s0, s1, -⟩
  have HMI := HW.start k
  have HKX : Kx (fun k => k = g) w w := Kx.refl _ _
  refine wp_seq ?_
  refine deedL [.eq 4 (.int .i64 0), .eq 0 (.slice A n c), .eq 1 (.int .i64 k), .w (Below w.heap.size w)] 19 [[]] [] [1, 2, 3] hM hN hD (by kernel_rfl) ⟨s0, s1, ⟨Below.refl _ _, below_drew (Below.refl _ _)⟩, trivial⟩ ⟨fun _ _ hb h => below_step h hb, trivial⟩ (fun hgrow => ⟨fun _ _ _ => rv rfl (x_assign rfl rfl) rfl, trivial⟩) ?_
  clear s0 s1
  clear hN hD
  rintro a1 w1 hN hD ⟨s0, s1, hGR, -⟩
  replace HMI := HMI.below hGR
  replace HKX := HKX.step hGR
  clear hGR
  show Code.wp _ _ _ _ _
  refine wp_seq ?_
  refine wp_seq ?_
  refine deedL [.eq 5 (.int .i64 0), .eq 0 (.slice A n c), .eq 1 (.int .i64 k), .w (Below w1.heap.size w1)] 19 [[]] [] [0, 1, 2, 3] hM hN hD (by kernel_rfl) ⟨s0, s1, ⟨Below.refl _ _, below_drew (Below.refl _ _)⟩, trivial⟩ ⟨fun _ _ hb h => below_step h hb, trivial⟩ (fun hgrow => ⟨fun _ _ _ => rv rfl (x_assign rfl rfl) rfl, trivial⟩) ?_
  clear s0 s1
  clear hN hD
  rintro a2 w2 hN hD ⟨s5, s0, s1, hGR, -⟩
  replace HMI := HMI.below hGR
  replace HKX := HKX.step hGR
  clear hGR
  show Code.wp _ _ _ _ _
  refine wp_block ?_
  refine wp_loopN (fun n_ q_ w_ => ∃ (i : Int), (q_.tmps.size = 19) ∧ (q_.defers = []) ∧ (sl q_ 0 = .slice A n c) ∧ (sl q_ 1 = .int .i64 (k + i)) ∧ (sl q_ 5 = .int .i64 i) ∧ (MI w_ g A n k i) ∧ (Kx (fun k => k = g) w w_) ∧ (0 ≤ i) ∧ (i ≤ n) ∧ (n_ = (n - i).toNat)) ((fun (i : Int) => (n - i).toNat) 0) ?_ ?_
  · exact ⟨0, hN, hD, s0, (by rw [s1]; congr 1; omega), s5, HMI, HKX, (by omega), (by omega), rfl⟩
  clear s0 s1 s5 HMI HKX hN hD
  rintro n_3 a3 w3 ⟨i, hN, hD, s0, s1, s5, HMI, HKX, hi0, hi1, hmeas⟩
  refine wp_seq ?_
  refine wp_seq ?_
  refine deedL [.eq 6 (.int .i64 i), .eq 7 (.slice A n c), .eq 8 (.int .i64 (n : Int)), .eq 9 (.bool (decide (i < (n : Int)))), .eq 0 (.slice A n c), .eq 1 (.int .i64 (k + i)), .eq 5 (.int .i64 i), .w (Below w3.heap.size w3)] 19 [[6], [4], [1], [0, 2]] [] [3, 4, 5, 6, 7] hM hN hD (by kernel_rfl) ⟨s0, s1, s5, ⟨Below.refl _ _, below_drew (Below.refl _ _)⟩, trivial⟩ ⟨fun _ _ hb h => below_step h hb, trivial⟩ (fun hgrow => ⟨fun _ _ h => rv rfl (x_move rfl h.1) rfl,
    fun _ _ h => rv rfl (x_move rfl h.1) rfl,
    fun _ _ h => rv rfl (x_len_slice rfl Try.underlying24 h.1) rfl,
    fun _ _ h => rv rfl (x_lss rfl h.1 h.2.1) rfl, trivial⟩) ?_
  clear s0 s1 s5
  clear hN hD
  rintro a4 w4 hN hD ⟨s9, s0, s1, s5, hGR, -⟩
  replace HMI := HMI.below hGR
  replace HKX := HKX.step hGR
  clear hGR
  show Code.wp _ _ _ _ _
  refine wp_cond (t := decide (i < (n : Int))) s9 ?_
  rcases Bool.eq_false_or_eq_true (decide (i < (n : Int))) with cd5 | cd5
  · rw [cd5]
    show Code.wp _ _ _ _ _
    have pd5 := of_decide_eq_true cd5
    have hi2 := pd5
    refine wp_skip ?_
    show Code.wp _ _ _ _ _
    refine wp_seq ?_
    refine wp_block ?_
    refine wp_seq ?_
    have hai := HMI.at_ hi0 hi2
    refine deedL [.eq 12 (.slice A n c), .eq 13 (.int .i64 i), .eq 14 (.int .i64 (k + i)), .eq 15 (.pointer (some ((adr A).add (i.toNat * 1)))), .w fun W => MI W g A n k (i + 1) ∧ Kx (fun k => k = g) w4 W, .eq 0 (.slice A n c), .eq 1 (.int .i64 (k + i)), .eq 5 (.int .i64 i), .w (Below w4.heap.size w4)] 19 [[5], [7], [6], [0, 1], [3, 2, 8]] [[], [], [], [], [8]] [4, 5, 6, 7] hM hN hD (by kernel_rfl) ⟨s0, s1, s5, ⟨Below.refl _ _, below_drew (Below.refl _ _)⟩, trivial⟩ ⟨fun _ _ hb h => ⟨h.1.below hb, h.2.step hb⟩, fun _ _ hb h => below_step h hb, trivial⟩ (fun hgrow => ⟨fun _ _ h => rv rfl (x_move rfl h.1) rfl,
      fun _ _ h => rv rfl (x_move rfl h.1) rfl,
      fun _ _ h => rv rfl (x_move rfl h.1) rfl,
      fun _ _ h => rv rfl (x_index_at rfl h.1 h.2.1 Try.underlying24 sz3 hi0 hi2 hai.1) rfl,
      ?_, trivial⟩) ?_
    · rintro a_ W ⟨h3, h2, h8, -⟩
      have hm := HMI.below h8
      have hb4 := hm.at_ hi0 hi2
      obtain ⟨u_, hu_⟩ := hb4.2.2.1
      refine runs_skip (wanted_none rfl) (x_store1 rfl (h3.trans (by rw [hai.2.1])) h2 rfl sz3 hu_ hb4.2.2.2) ?_
      exact owe_keep trivial ⟨hm.set hi0 hi2, kx_tr (kx_of_below h8 _) (kx_set (fun k => k = g) rfl _ _)⟩
    clear s0 s1 s5 s9
    clear hN hD
    clear HMI
    rintro a6 w6 hN hD ⟨⟨HMIN, hkx⟩, s0, s1, s5, -⟩
    replace HKX := (kx_tr HKX hkx)
    have HMI := HMIN
    clear HMIN
    show Code.wp _ _ _ _ _
    refine deedL [.eq 16 (.int .i64 (k + i)), .eq 17 (.int .i64 (k + i + 1)), .eq 1 (.int .i64 (k + i + 1)), .eq 0 (.slice A n c), .eq 1 (.int .i64 (k + i)), .eq 5 (.int .i64 i), .w (Below w6.heap.size w6)] 19 [[4], [0], [1]] [[], [], [4]] [2, 3, 5, 6] hM hN hD (by kernel_rfl) ⟨s0, s1, s5, ⟨Below.refl _ _, below_drew (Below.refl _ _)⟩, trivial⟩ ⟨fun _ _ hb h => below_step h hb, trivial⟩ (fun hgrow => ⟨fun _ _ h => rv rfl (x_move rfl h.1) rfl,
      fun _ _ h => rv rfl (x_add' rfl h.1 rfl (by omega)) rfl,
      fun _ _ h => rv rfl (x_assign rfl h.1) rfl, trivial⟩) ?_
    clear s0 s1 s5
    clear hN hD
    rintro a7 w7 hN hD ⟨s1, s0, s5, hGR, -⟩
    replace HKX := HKX.step hGR
    replace HMI := HMI.below hGR
    clear hGR
    show Code.wp _ _ _ _ _
    refine deedL [.eq 10 (.int .i64 i), .eq 11 (.int .i64 (i + 1)), .eq 5 (.int .i64 (i + 1)), .eq 0 (.slice A n c), .eq 1 (.int .i64 (k + i + 1)), .eq 5 (.int .i64 i), .w (Below w7.heap.size w7)] 19 [[5], [0], [1]] [[], [], [5]] [2, 3, 4, 6] hM hN hD (by kernel_rfl) ⟨s0, s1, s5, ⟨Below.refl _ _, below_drew (Below.refl _ _)⟩, trivial⟩ ⟨fun _ _ hb h => below_step h hb, trivial⟩ (fun hgrow => ⟨fun _ _ h => rv rfl (x_move rfl h.1) rfl,
      fun _ _ h => rv rfl (x_add' rfl h.1 rfl (by omega)) rfl,
      fun _ _ h => rv rfl (x_assign rfl h.1) rfl, trivial⟩) ?_
    clear s0 s5 s1
    clear hN hD
    rintro a8 w8 hN hD ⟨s5, s0, s1, hGR, -⟩
    replace HKX := HKX.step hGR
    replace HMI := HMI.below hGR
    clear hGR
    show ∃ m, m < n_3 ∧ _
    exact ⟨_, (by omega), ⟨(i + 1), hN, hD, s0, (by rw [s1]; congr 1; omega), s5, HMI, HKX, (by omega), (by omega), rfl⟩⟩
  · rw [cd5]
    show Code.wp _ _ _ _ _
    have pd5 := of_decide_eq_false cd5
    refine wp_exit (then_exit (then_exit (at_exit ?_)))
    show Code.wp _ _ _ _ _
    refine wp_seq ?_
    refine deedL [.eq 18 (.int .i64 (k + i)), .eq 4 (.int .i64 (k + i)), .eq 1 (.int .i64 (k + i)), .w (Below w4.heap.size w4)] 19 [[2], [0]] [] [1, 2, 3] hM hN hD (by kernel_rfl) ⟨s1, ⟨Below.refl _ _, below_drew (Below.refl _ _)⟩, trivial⟩ ⟨fun _ _ hb h => below_step h hb, trivial⟩ (fun hgrow => ⟨fun _ _ h => rv rfl (x_move rfl h.1) rfl,
      fun _ _ h => rv rfl (x_assign rfl h.1) rfl, trivial⟩) ?_
    clear s0 s1 s5 s9
    clear hN hD
    rintro a9 w9 hN hD ⟨s4, s1, hGR, -⟩
    replace HMI := HMI.below hGR
    replace HKX := HKX.step hGR
    clear hGR
    show Code.wp _ _ _ _ _
    refine wp_ret ?_
    refine bodyPost_ret (results_single rfl (vtmp s4 .nil)) hD ?_
    have hin : i = n := by omega
    exact ⟨by rw [hin], by rw [hin] at HMI; exact HMI, HKX⟩
end Go.Proofs.Ytideafkiaipnoaa.Q

/- Rows of elements of one kind: read; owned and written; made. -/
namespace Go.Proofs.Ytideafkiaipnoaa.Q
set_option linter.unusedVariables false
set_option linter.unusedSimpArgs false
open Go Go.RowKit Go.Proofs.YtideafkiaipnoaaW.PrintWords Go.Proofs.Ytideafkiaipnoaa.Deed
/-- How an element lies in memory: its cells; a row of integers that it may hold. -/
structure Enc (α : Type) where
  n : Nat
  T : TypeId
  enc : α → List Value
  inn : α → Option (Option Addr × List Int)
  len : ∀ x, (enc x).length = n
def gd {α : Type} [Inhabited α] (xs : List α) (i : Int) : α := xs.getD i.toNat default
theorem gd_of {α : Type} [Inhabited α] {xs : List α} {i : Int} (h0 : 0 ≤ i) (h1 : i < xs.length) : xs[i.toNat]? = some (gd xs i) := by
  have : i.toNat < xs.length := by omega
  simp [gd, List.getD_eq_getElem?_getD, this]
section
variable {α : Type} (E : Enc α)
/-- The elements xs lie at A. -/
def RV (w : World) (A : Option Addr) (xs : List α) : Prop :=
  ∀ i x, xs[i]? = some x → A = some (adr A) ∧ (∀ (j : Nat) (u : Value), (E.enc x)[j]? = some u → w.cell? ((adr A).add (i * E.n + j)) = some u) ∧ ∀ B ys, E.inn x = some (B, ys) → RI w B ys
/-- Integers of one's own: in a block between lo and hi. -/
def OwnI (w : World) (A : Option Addr) (xs : List Int) (lo hi : Nat) : Prop :=
  xs = [] ∨ ∃ (g : Nat) (L : List Value), A = some ⟨g, 0, none⟩ ∧ lo ≤ g ∧ g < hi ∧ w.heap[g]? = some (.cells L.toArray 3 (0, 0)) ∧ ∀ (i : Nat) (x : Int), xs[i]? = some x → L[i]? = some (.int .i64 x)
/-- Elements of one's own. -/
structure OwnAt (w : World) (A : Option Addr) (xs : List α) (lo hi : Nat) : Prop where
  out : xs = [] ∨ ∃ (g : Nat) (L : List Value), A = some ⟨g, 0, none⟩ ∧ lo ≤ g ∧ g < hi ∧ w.heap[g]? = some (.cells L.toArray E.T (0, 0)) ∧ ∀ (i : Nat) (x : α), xs[i]? = some x → ∀ (j : Nat) (u : Value), (E.enc x)[j]? = some u → L[i * E.n + j]? = some u
  inn : ∀ (i : Nat) (x : α) (B : Option Addr) (ys : List Int), xs[i]? = some x → E.inn x = some (B, ys) → OwnI w B ys lo hi
  far : ∀ (i : Nat) (x : α) (g : Nat) (ys : List Int), xs[i]? = some x → E.inn x = some (some ⟨g, 0, none⟩, ys) → ys ≠ [] → A ≠ some ⟨g, 0, none⟩
  dis : ∀ (i i' : Nat) (x x' : α) (g : Nat) (ys ys' : List Int), xs[i]? = some x → xs[i']? = some x' → E.inn x = some (some ⟨g, 0, none⟩, ys) → E.inn x' = some (some ⟨g, 0, none⟩, ys') → ys ≠ [] → ys' ≠ [] → i = i'
end
section
variable {w W : World} {A : Option Addr} {xs : List Int} {lo hi : Nat}
theorem OwnI.RI (h : OwnI w A xs lo hi) : RI w A xs := by
  intro i x hx
  rcases h with h | ⟨g, L, h1, h2, h3, h4, h5⟩
  · rw [h] at hx; simp at hx
  · subst h1
    refine ⟨rfl, ?_⟩
    show w.cell? ((⟨g, 0, none⟩ : Addr).add i) = _
    rw [add_mk, Nat.zero_add, blk_cell h4]
    simpa using h5 i x hx
theorem OwnI.kx {S : Nat → Prop} (h : OwnI w A xs lo hi) (k : Kx S w W) (hS : ∀ i, lo ≤ i → i < hi → ¬ S i) : OwnI W A xs lo hi := by
  rcases h with h | ⟨g, L, h1, h2, h3, h4, h5⟩
  · exact .inl h
  · exact .inr ⟨g, L, h1, h2, h3, blk_kx h4 k (hS g h2 h3), h5⟩
theorem OwnI.below (h : OwnI w A xs lo hi) (hb : Below w.heap.size w W) : OwnI W A xs lo hi := h.kx (kx_of_below hb (fun _ => False)) (fun _ _ _ h => h)
theorem OwnI.far {g : Nat} {T : TypeId} {L : Array Value} (h : OwnI w A xs lo hi) (hb : w.heap[g]? = some (.cells L T (0, 0))) (hT : decide (3 = T) = false) (K : Kx (fun k => k = g) w W) : OwnI W A xs lo hi := by
  rcases h with h | ⟨g', L', h1, h2, h3, h4, h5⟩
  · exact .inl h
  · exact .inr ⟨g', L', h1, h2, h3, blk_kx h4 K (blk_neT h4 hb hT), h5⟩
theorem OwnI.wide {lo' hi' : Nat} (h : OwnI w A xs lo hi) (h1 : lo' ≤ lo) (h2 : hi ≤ hi') : OwnI w A xs lo' hi' := by
  rcases h with h | ⟨g, L, u1, u2, u3, u4, u5⟩
  · exact .inl h
  · exact .inr ⟨g, L, u1, by omega, by omega, u4, u5⟩
theorem OwnI.of_IB {g : Nat} (h : IB w g xs 3) (h1 : lo ≤ g) (h2 : g < hi) : OwnI w (some ⟨g, 0, none⟩) xs lo hi := .inr ⟨g, _, rfl, h1, h2, h, fun i x hx => by simp [hx]⟩
/-- It may be written. -/
theorem OwnI.WI (h : OwnI w A xs lo hi) (hne : xs ≠ []) : ∃ g, A = some ⟨g, 0, none⟩ ∧ lo ≤ g ∧ g < hi ∧ WI w g A xs.length := by
  rcases h with h | ⟨g, L, h1, h2, h3, h4, h5⟩
  · exact absurd h hne
  · refine ⟨g, h1, h2, h3, .inr ⟨h1, L, h4, ?_⟩⟩
    rcases Nat.lt_or_ge L.length xs.length with hl | hl
    · exfalso
      have hx : xs[L.length]? = some xs[L.length] := by simp [hl]
      have := h5 _ _ hx
      simp at this
    · exact hl
theorem MI.own {g : Nat} {k : Int} {n : Nat} (h : MI w g A n k n) (h1 : lo ≤ g) (h2 : g < hi) : OwnI w A (mk k n) lo hi := by
  rcases h with h | ⟨u1, L, u2, u3, u4⟩
  · subst h; exact .inl rfl
  · refine .inr ⟨g, L, u1, h1, h2, u2, fun i x hx => ?_⟩
    have hi : i < n := by have := (List.getElem?_eq_some_iff.1 hx).1; rwa [mk_length] at this
    have hg := gi_mk (k := k) (n := n) (i := i) (by omega) (by omega)
    have hx2 : x = k + i := by
      rw [← hg]
      simp [gi, List.getD_eq_getElem?_getD, hx]
    have := u4 i (by omega) (by omega)
    simpa [hx2] using this
end
section
variable {α : Type} {E : Enc α} {w W : World} {A : Option Addr} {xs : List α} {lo hi : Nat}
theorem RV.below (h : RV E w A xs) (hb : Below w.heap.size w W) : RV E W A xs := fun i x hx => ⟨(h i x hx).1, fun j u hu => cell_below ((h i x hx).2.1 j u hu) hb, fun B ys hy => ((h i x hx).2.2 B ys hy).below hb⟩
theorem RV.nil (w : World) (A : Option Addr) : RV E w A [] := fun i x h => by simp at h
section
variable [Inhabited α]
theorem RV.ad (h : RV E w A xs) (i : Int) (h0 : 0 ≤ i) (h1 : i < xs.length) : A = some (adr A) := (h _ _ (gd_of h0 h1)).1
theorem RV.cell (h : RV E w A xs) (hb : Below w.heap.size w W) {i : Int} (h0 : 0 ≤ i) (h1 : i < xs.length) {j : Nat} {u : Value} (hu : (E.enc (gd xs i))[j]? = some u) : W.cell? (((adr A).add (i.toNat * E.n)).add j) = some u := by
  rw [add_add]
  exact cell_below ((h _ _ (gd_of h0 h1)).2.1 j u hu) hb
theorem RV.cells (h : RV E w A xs) (hb : Below w.heap.size w W) {i : Int} (h0 : 0 ≤ i) (h1 : i < xs.length) : ∀ (j : Nat) (u : Value), (E.enc (gd xs i))[j]? = some u → W.cell? (((adr A).add (i.toNat * E.n)).add j) = some u := fun _ _ hu => h.cell hb h0 h1 hu
theorem RV.sub (h : RV E w A xs) (hb : Below w.heap.size w W) {i : Int} (h0 : 0 ≤ i) (h1 : i < xs.length) (off : Nat) {cs : List Value} (hc : ((E.enc (gd xs i)).drop off).take cs.length = cs) : ∀ (j : Nat) (u : Value), cs[j]? = some u → W.cell? ((((adr A).add (i.toNat * E.n)).add off).add j) = some u := by
  intro j u hu
  have hj := (List.getElem?_eq_some_iff.1 hu).1
  rw [← hc, List.getElem?_take_of_lt hj, List.getElem?_drop] at hu
  rw [add_add]
  exact h.cell hb h0 h1 hu
theorem RV.cell0 (h : RV E w A xs) (hb : Below w.heap.size w W) {i : Int} (h0 : 0 ≤ i) (h1 : i < xs.length) {u : Value} (hu : (E.enc (gd xs i))[0]? = some u) : W.cell? ((adr A).add (i.toNat * E.n)) = some u := by
  have := h.cell hb h0 h1 hu
  rwa [add_add, Nat.add_zero] at this
theorem RV.inn (h : RV E w A xs) {i : Int} (h0 : 0 ≤ i) (h1 : i < xs.length) {B : Option Addr} {ys : List Int} (hi : E.inn (gd xs i) = some (B, ys)) : RI w B ys := (h _ _ (gd_of h0 h1)).2.2 B ys hi
end
theorem OwnAt.RV (h : OwnAt E w A xs lo hi) : RV E w A xs := by
  intro i x hx
  rcases h.out with h1 | ⟨g, L, h1, h2, h3, h4, h5⟩
  · rw [h1] at hx; simp at hx
  · refine ⟨by rw [h1]; rfl, fun j u hu => ?_, fun B ys hy => (h.inn i x B ys hx hy).RI⟩
    rw [h1]
    show w.cell? ((⟨g, 0, none⟩ : Addr).add _) = _
    rw [add_mk, Nat.zero_add, blk_cell h4]
    simpa using h5 i x hx j u hu
theorem OwnAt.kx {S : Nat → Prop} (h : OwnAt E w A xs lo hi) (k : Kx S w W) (hS : ∀ i, lo ≤ i → i < hi → ¬ S i) : OwnAt E W A xs lo hi := by
  refine ⟨?_, fun i x B ys hx hy => (h.inn i x B ys hx hy).kx k hS, h.far, h.dis⟩
  rcases h.out with h1 | ⟨g, L, h1, h2, h3, h4, h5⟩
  · exact .inl h1
  · exact .inr ⟨g, L, h1, h2, h3, blk_kx h4 k (hS g h2 h3), h5⟩
theorem OwnAt.below (h : OwnAt E w A xs lo hi) (hb : Below w.heap.size w W) : OwnAt E W A xs lo hi := h.kx (kx_of_below hb (fun _ => False)) (fun _ _ _ h => h)
theorem OwnAt.wide {lo' hi' : Nat} (h : OwnAt E w A xs lo hi) (h1 : lo' ≤ lo) (h2 : hi ≤ hi') : OwnAt E w A xs lo' hi' := by
  refine ⟨?_, fun i x B ys hx hy => (h.inn i x B ys hx hy).wide h1 h2, h.far, h.dis⟩
  rcases h.out with h3 | ⟨g, L, u1, u2, u3, u4, u5⟩
  · exact .inl h3
  · exact .inr ⟨g, L, u1, by omega, by omega, u4, u5⟩
theorem OwnAt.ad (h : OwnAt E w A xs lo hi) {i : Int} (h0 : 0 ≤ i) (h1 : i < xs.length) : A = some (adr A) := by
  have : i.toNat < xs.length := by omega
  exact (h.RV _ xs[i.toNat] (List.getElem?_eq_getElem this)).1
/-- The region's blocks. -/
abbrev Mine (lo hi : Nat) : Nat → Prop := fun k => lo ≤ k ∧ k < hi
theorem enc_lt {x : α} {j : Nat} {u : Value} (h : (E.enc x)[j]? = some u) : j < E.n := by
  have := (List.getElem?_eq_some_iff.1 h).1
  rwa [E.len] at this
theorem idx_ne {i i' j j' n : Nat} (h : i ≠ i') (hj : j < n) (hj' : j' < n) : i * n + j ≠ i' * n + j' := by
  intro e
  have h1 : (i * n + j) / n = i := by rw [Nat.mul_comm, Nat.mul_add_div (by omega), Nat.div_eq_of_lt hj]; rfl
  have h2 : (i' * n + j') / n = i' := by rw [Nat.mul_comm, Nat.mul_add_div (by omega), Nat.div_eq_of_lt hj']; rfl
  rw [e] at h1
  exact h (h1.symm.trans h2)
/-- A cell of an element written. -/
theorem OwnAt.set (h : OwnAt E w A xs lo hi) {i j : Nat} {x0 x1 : α} {u : Value} (hx : xs[i]? = some x0) (he : E.enc x1 = (E.enc x0).set j u) (hi1 : E.inn x1 = E.inn x0) (hj : j < E.n) :
    (∃ v, w.cell? ((adr A).add (i * E.n + j)) = some v) ∧ w.frozen? ((adr A).add (i * E.n + j)) = false ∧ OwnAt E (w.setCell ((adr A).add (i * E.n + j)) u) A (xs.set i x1) lo hi ∧ Kx (Mine lo hi) w (w.setCell ((adr A).add (i * E.n + j)) u) := by
  have hil : i < xs.length := (List.getElem?_eq_some_iff.1 hx).1
  rcases h.out with h1 | ⟨g, L, h1, h2, h3, h4, h5⟩
  · rw [h1] at hx; simp at hx
  have ea : (adr A).add (i * E.n + j) = ⟨g, i * E.n + j, none⟩ := by rw [h1]; show (⟨g, 0, none⟩ : Addr).add _ = _; rw [add_mk, Nat.zero_add]
  have hu : (E.enc x0)[j]? = some ((E.enc x0)[j]'(by rw [E.len]; exact hj)) := by simp
  have hL := h5 i x0 hx j _ hu
  rw [ea]
  refine ⟨⟨_, (by rw [blk_cell h4]; simpa using hL)⟩, blk_frozen h4 _, ⟨.inr ⟨g, _, h1, h2, h3, blk_setL h4 _ _, ?_⟩, ?_, ?_, ?_⟩, kx_set _ ⟨h2, h3⟩ _ _⟩
  · intro i' x' hx' j' u' hu'
    by_cases e : i' = i
    · subst e
      rw [List.getElem?_set_self hil] at hx'
      cases hx'
      rw [he] at hu'
      by_cases ej : j' = j
      · subst ej
        rw [List.getElem?_set_self (by rw [E.len]; exact hj)] at hu'
        cases hu'
        rw [List.getElem?_set_self ((List.getElem?_eq_some_iff.1 hL).1)]
      · rw [List.getElem?_set_ne (Ne.symm ej)] at hu'
        rw [List.getElem?_set_ne (by omega)]
        exact h5 _ _ hx _ _ hu'
    · rw [List.getElem?_set_ne (Ne.symm e)] at hx'
      rw [List.getElem?_set_ne (idx_ne (Ne.symm e) hj (enc_lt hu'))]
      exact h5 _ _ hx' _ _ hu'
  · intro i' x' B ys hx' hy
    have hown : OwnI w B ys lo hi := by
      by_cases e : i' = i
      · subst e
        rw [List.getElem?_set_self hil] at hx'
        cases hx'
        exact h.inn _ _ _ _ hx (hi1 ▸ hy)
      · rw [List.getElem?_set_ne (Ne.symm e)] at hx'
        exact h.inn _ _ _ _ hx' hy
    rcases hown with hown | ⟨g', L', u1, u2, u3, u4, u5⟩
    · exact .inl hown
    · by_cases hne : ys = []
      · exact .inl hne
      have hg : g' ≠ g := by
        rintro rfl
        by_cases e : i' = i
        · subst e
          rw [List.getElem?_set_self hil] at hx'
          cases hx'
          exact h.far _ _ g' ys hx (by rw [← hi1, hy, u1]) hne h1
        · rw [List.getElem?_set_ne (Ne.symm e)] at hx'
          exact h.far _ _ g' ys hx' (by rw [hy, u1]) hne h1
      exact .inr ⟨g', L', u1, u2, u3, (Below.heap_setCell _ _ _ _ hg).trans u4, u5⟩
  · intro i' x' g' ys hx' hy hne
    by_cases e : i' = i
    · subst e
      rw [List.getElem?_set_self hil] at hx'
      cases hx'
      exact h.far _ _ g' ys hx (hi1 ▸ hy) hne
    · rw [List.getElem?_set_ne (Ne.symm e)] at hx'
      exact h.far _ _ g' ys hx' hy hne
  · have key : ∀ (a : Nat) (y : α), (xs.set i x1)[a]? = some y → ∃ y', xs[a]? = some y' ∧ E.inn y = E.inn y' := by
      intro a y hy
      by_cases e : a = i
      · subst e
        rw [List.getElem?_set_self hil] at hy
        cases hy
        exact ⟨x0, hx, hi1⟩
      · rw [List.getElem?_set_ne (Ne.symm e)] at hy
        exact ⟨y, hy, rfl⟩
    intro a b y z g' ys zs hy hz hiy hiz hny hnz
    obtain ⟨y', u1, u2⟩ := key a y hy
    obtain ⟨z', v1, v2⟩ := key b z hz
    exact h.dis a b y' z' g' ys zs u1 v1 (u2 ▸ hiy) (v2 ▸ hiz) hny hnz
/-- The integers of an element marked. -/
theorem OwnAt.mark (h : OwnAt E w A xs lo hi) {i : Nat} {x0 x1 : α} {B : Option Addr} {ys zs : List Int} (hx : xs[i]? = some x0) (hi0 : E.inn x0 = some (B, ys)) (he : E.enc x1 = E.enc x0) (hi1 : E.inn x1 = some (B, zs)) (_ : zs.length = ys.length)
    (hne : ys ≠ []) {g : Nat} (hB : B = some ⟨g, 0, none⟩) (k : Kx (fun k => k = g) w W) (hz : OwnI W B zs lo hi) : OwnAt E W A (xs.set i x1) lo hi := by
  have hil : i < xs.length := (List.getElem?_eq_some_iff.1 hx).1
  subst hB
  refine ⟨?_, ?_, ?_, ?_⟩
  · rcases h.out with h1 | ⟨g', L, h1, h2, h3, h4, h5⟩
    · rw [h1] at hx; simp at hx
    · have hg : g' ≠ g := by
        rintro rfl
        exact h.far _ _ g' ys hx hi0 hne h1
      refine .inr ⟨g', L, h1, h2, h3, blk_kx h4 k hg, fun i' x' hx' j u hu => ?_⟩
      by_cases e : i' = i
      · subst e
        rw [List.getElem?_set_self hil] at hx'
        cases hx'
        exact h5 _ _ hx j u (he ▸ hu)
      · rw [List.getElem?_set_ne (Ne.symm e)] at hx'
        exact h5 _ _ hx' j u hu
  · intro i' x' B' ys' hx' hy
    by_cases e : i' = i
    · subst e
      rw [List.getElem?_set_self hil] at hx'
      cases hx'
      rw [hi1] at hy
      cases hy
      exact hz
    · rw [List.getElem?_set_ne (Ne.symm e)] at hx'
      rcases h.inn _ _ _ _ hx' hy with hown | ⟨g', L', u1, u2, u3, u4, u5⟩
      · exact .inl hown
      · by_cases hne' : ys' = []
        · exact .inl hne'
        refine .inr ⟨g', L', u1, u2, u3, blk_kx u4 k ?_, u5⟩
        rintro rfl
        exact e (h.dis i' i x' x0 g' ys' ys hx' hx (by rw [hy, u1]) hi0 hne' hne)
  · intro i' x' g' ys' hx' hy hne'
    by_cases e : i' = i
    · subst e
      rw [List.getElem?_set_self hil] at hx'
      cases hx'
      rw [hi1] at hy
      cases hy
      exact h.far _ _ g ys hx hi0 hne
    · rw [List.getElem?_set_ne (Ne.symm e)] at hx'
      exact h.far _ _ g' ys' hx' hy hne'
  · have key : ∀ (a : Nat) (y : α) (g' : Nat) (zs' : List Int), (xs.set i x1)[a]? = some y → E.inn y = some (some ⟨g', 0, none⟩, zs') → zs' ≠ [] → ∃ y' ys', xs[a]? = some y' ∧ E.inn y' = some (some ⟨g', 0, none⟩, ys') ∧ ys' ≠ [] := by
      intro a y g' zs' hy hin hne'
      by_cases e : a = i
      · subst e
        rw [List.getElem?_set_self hil] at hy
        cases hy
        rw [hi1] at hin
        cases hin
        exact ⟨x0, ys, hx, hi0, hne⟩
      · rw [List.getElem?_set_ne (Ne.symm e)] at hy
        exact ⟨y, zs', hy, hin, hne'⟩
    intro a b y z g' ys' zs' hy hz' hiy hiz hny hnz
    obtain ⟨y', yy, u1, u2, u3⟩ := key a y g' ys' hy hiy hny
    obtain ⟨z', zz, v1, v2, v3⟩ := key b z g' zs' hz' hiz hnz
    exact h.dis a b y' z' g' yy zz u1 v1 u2 v2 u3 v3
/-- A whole element written into a row that is being made: the first i stand. -/
def Cpy (E : Enc α) (w : World) (g lo n : Nat) (xs : List α) : Prop := ∃ L : List Value, w.heap[g]? = some (.cells L.toArray E.T (0, 0)) ∧ L.length = n * E.n ∧ lo ≤ g ∧ OwnAt E w (some ⟨g, 0, none⟩) xs lo w.heap.size
theorem Cpy.start {L : List Value} {g n : Nat} (h : w.heap[g]? = some (.cells L.toArray E.T (0, 0))) (hl : L.length = n * E.n) (hlo : lo ≤ g) : Cpy E w g lo n [] :=
  ⟨L, h, hl, hlo, ⟨.inl rfl, fun i x B ys hx => by simp at hx, fun i x g ys hx => by simp at hx, fun i i' x x' g ys ys' hx => by simp at hx⟩⟩
theorem Cpy.below {g n : Nat} (h : Cpy E w g lo n xs) (hb : Below w.heap.size w W) : Cpy E W g lo n xs := by
  obtain ⟨L, h1, h2, h3, h4⟩ := h
  exact ⟨L, blk_below h1 hb, h2, h3, (h4.below hb).wide (Nat.le_refl _) hb.size⟩
theorem Cpy.cells {g n i : Nat} (h : Cpy E w g lo n xs) (hi : i < n) : ∀ j, j < E.n → (w.cell? ⟨g, i * E.n + j, none⟩).isSome = true := by
  obtain ⟨L, h1, h2, _⟩ := h
  intro j hj
  have h3 : i * E.n + j < n * E.n := Nat.lt_of_lt_of_le (Nat.add_lt_add_left hj _) (by rw [← Nat.succ_mul]; exact Nat.mul_le_mul_right _ hi)
  rw [blk_cell h1]
  simp [h2, h3]
theorem Cpy.free {g n : Nat} (h : Cpy E w g lo n xs) (j : Nat) : w.frozen? ⟨g, j, none⟩ = false := by
  obtain ⟨L, h1, _⟩ := h
  exact blk_frozen h1 j
theorem Cpy.store {g n : Nat} (h : Cpy E w g lo n xs) (hn : xs.length < n) (x : α)
    (hin : ∀ (B : Option Addr) (ys : List Int), E.inn x = some (B, ys) → OwnI w B ys lo w.heap.size ∧ B ≠ some ⟨g, 0, none⟩ ∧ ∀ g' : Nat, B = some ⟨g', 0, none⟩ → ∀ (i : Nat) (x' : α) (ys' : List Int), xs[i]? = some x' → E.inn x' = some (some ⟨g', 0, none⟩, ys') → ys' ≠ [] → ys = []) : Cpy E (w.setCells g (xs.length * E.n) (E.enc x)) g lo n (xs ++ [x]) := by
  obtain ⟨L, h1, h2, h3, h4⟩ := h
  have hlen : xs.length * E.n + (E.enc x).length ≤ L.length := by rw [h2, E.len, ← Nat.succ_mul]; exact Nat.mul_le_mul_right _ hn
  have hb := blk_stored (E.enc x) (xs.length * E.n) w L h1 hlen
  have hk : Kx (fun k => k = g) w (w.setCells g (xs.length * E.n) (E.enc x)) := kx_cells (fun k => k = g) rfl
  have hsz : (w.setCells g (xs.length * E.n) (E.enc x)).heap.size = w.heap.size := (setCells_same g (E.enc x) (xs.length * E.n) w).2.2.2
  have get : ∀ (i : Nat) (y : α), (xs ++ [x])[i]? = some y → xs[i]? = some y ∨ i = xs.length ∧ y = x := by
    intro i y hy
    rcases Nat.lt_or_ge i xs.length with hi | hi
    · rw [List.getElem?_append_left hi] at hy; exact .inl hy
    · rw [List.getElem?_append_right hi] at hy
      have : i - xs.length = 0 := by
        rcases Nat.eq_zero_or_pos (i - xs.length) with e | e
        · exact e
        · rw [List.getElem?_eq_none (by simp; omega)] at hy; cases hy
      rw [this] at hy
      simp at hy
      exact .inr ⟨by omega, hy.symm⟩
  have lift : ∀ (B : Option Addr) (ys : List Int), OwnI w B ys lo w.heap.size → B ≠ some ⟨g, 0, none⟩ → OwnI (w.setCells g (xs.length * E.n) (E.enc x)) B ys lo w.heap.size := by
    intro B ys ho hB
    rcases ho with e | ⟨g', L', u1, u2, u3, u4, u5⟩
    · exact .inl e
    · exact .inr ⟨g', L', u1, u2, u3, blk_kx u4 hk (by rintro rfl; exact hB u1), u5⟩
  refine ⟨_, hb, by simp only [List.length_append, List.length_take, List.length_drop]; rw [E.len] at hlen ⊢; omega, h3, ?_⟩
  rw [hsz]
  refine ⟨.inr ⟨g, _, rfl, h3, blk_lt h1, hb, ?_⟩, ?_, ?_, ?_⟩
  · intro i y hy j u hu
    have hj := enc_lt hu
    rcases get i y hy with hy | ⟨rfl, rfl⟩
    · have hi : i < xs.length := (List.getElem?_eq_some_iff.1 hy).1
      have h5 : i * E.n + j < xs.length * E.n := Nat.lt_of_lt_of_le (Nat.add_lt_add_left hj _) (by rw [← Nat.succ_mul]; exact Nat.mul_le_mul_right _ hi)
      rw [List.append_assoc, List.getElem?_append_left (by simp; omega), List.getElem?_take_of_lt h5]
      rcases h4.out with e | ⟨g', L', v1, v2, v3, v4, v5⟩
      · rw [e] at hy; simp at hy
      · cases v1
        have e := v4.symm.trans h1
        injection e with e
        injection e with e _ _
        have := congrArg Array.toList e
        simp at this
        rw [← this]
        exact v5 i y hy j u hu
    · rw [List.append_assoc, List.getElem?_append_right (by simp; omega), List.getElem?_append_left (by simp [E.len]; omega)]
      have : xs.length * E.n + j - (L.take (xs.length * E.n)).length = j := by simp; omega
      rw [this]
      exact hu
  · intro i y B ys hy hin'
    rcases get i y hy with hy | ⟨rfl, rfl⟩
    · by_cases e : ys = []
      · exact .inl e
      · refine lift _ _ (h4.inn i y B ys hy hin') ?_
        rintro rfl
        exact h4.far i y g ys hy hin' e rfl
    · exact lift _ _ (hin B ys hin').1 (hin B ys hin').2.1
  · intro i y g' ys hy hin' hne
    rcases get i y hy with hy | ⟨rfl, rfl⟩
    · exact h4.far i y g' ys hy hin' hne
    · exact fun e => (hin _ ys hin').2.1 e.symm
  · intro i i' y y' g' ys ys' hy hy' hin1 hin2 hn1 hn2
    rcases get i y hy with u | ⟨u, rfl⟩
    · rcases get i' y' hy' with v | ⟨v, rfl⟩
      · exact h4.dis i i' y y' g' ys ys' u v hin1 hin2 hn1 hn2
      · exact absurd ((hin _ ys' hin2).2.2 g' rfl i y ys u hin1 hn1) hn2
    · rcases get i' y' hy' with v | ⟨v, rfl⟩
      · exact absurd ((hin _ ys hin1).2.2 g' rfl i' y' ys' v hin2 hn2) hn1
      · exact u.trans v.symm
end
end Go.Proofs.Ytideafkiaipnoaa.Q

/- Bytes and strings. -/
namespace Go.Proofs.Ytideafkiaipnoaa.Q
set_option linter.unusedVariables false
set_option linter.unusedSimpArgs false
open Go Go.RowKit Go.Proofs.YtideafkiaipnoaaW.PrintWords Go.Proofs.Ytideafkiaipnoaa.Deed
section
variable {P : Program} {ρ : Operand → Value} {o : Oper} {w : World} {x y : Operand} {t u e : TypeId} {k : IntKind} {a b : Int}
theorem x_rem (ho : o.op = .binOp .rem t x y u) (hx : ρ x = .int k a) (hy : ρ y = .int k b) (hb : b ≠ 0) : (execOp ρ o).run P w = .ok (.value (.int k (a.tmod b))) w := by unfold execOp; rw [ho]; simp [hx, hy, eqGuard, binOp, Op.intDiv, hb]
theorem x_quo (ho : o.op = .binOp .quo t x y u) (hx : ρ x = .int k a) (hy : ρ y = .int k b) (hb : b ≠ 0) : (execOp ρ o).run P w = .ok (.value (.int k (k.wrap (a.tdiv b)))) w := by unfold execOp; rw [ho]; simp [hx, hy, eqGuard, binOp, Op.intDiv, hb]
theorem x_quo' (ho : o.op = .binOp .quo t x y u) (hx : ρ x = .int .i64 a) (hy : ρ y = .int .i64 b) (hb : b ≠ 0) (h : -9223372036854775808 ≤ a.tdiv b ∧ a.tdiv b ≤ 9223372036854775807) : (execOp ρ o).run P w = .ok (.value (.int .i64 (a.tdiv b))) w := by rw [x_quo ho hx hy hb, wrap_in h]
theorem x_int {k2 : IntKind} (ho : o.op = .convert t u x) (hx : ρ x = .int k a) (ht : P.underlying t = some (.int k)) (hu : P.underlying u = some (.int k2)) : (execOp ρ o).run P w = .ok (.value (.int k2 (k2.wrap a))) w := by
  unfold execOp
  rw [ho]
  simp [hx, convert, run_underlying ht, run_underlying hu, Conv.intToInt]
theorem x_sadd {s r : ByteArray} (ho : o.op = .binOp .add t x y u) (hx : ρ x = .string s) (hy : ρ y = .string r) (h : ((s.size + r.size : Nat) : Int) ≤ 9223372036854775807) : (execOp ρ o).run P w = .ok (.value (.string (s ++ r))) w := by
  unfold execOp
  rw [ho]
  have : ¬ ((s.size + r.size : Nat) : Int) > IntKind.i64.max := by
    have e : IntKind.i64.max = 9223372036854775807 := by decide
    rw [e]; omega
  simp only [hx, hy, Sem.run_bind, eqGuard, binOp, Op.stringOp]
  simp
  omega
def byte1 (n : Int) : ByteArray := ByteArray.empty.push (UInt8.ofNat n.toNat)
theorem byte1_size (n : Int) : (byte1 n).size = 1 := rfl
/-- The digits of l ahead of s. -/
def mtl : Nat → Int → ByteArray → ByteArray
  | 0, _, s => s
  | f + 1, l, s => if 0 < l then mtl f (l.tdiv 10) (byte1 (IntKind.u8.wrap (48 + l.tmod 10)) ++ s) else s
theorem mtl_fuel : ∀ (f g : Nat) (l : Int) (s : ByteArray), l < f → l < g → mtl f l s = mtl g l s
  | 0, 0, l, s, _, _ => rfl
  | 0, g + 1, l, s, h1, _ => by unfold mtl; rw [if_neg (by omega)]
  | f + 1, 0, l, s, _, h2 => by unfold mtl; rw [if_neg (by omega)]
  | f + 1, g + 1, l, s, h1, h2 => by
    unfold mtl
    by_cases h : 0 < l
    · rw [if_pos h, if_pos h]
      have : l.tdiv 10 < l := by rw [Int.tdiv_eq_ediv_of_nonneg (by omega)]; omega
      exact mtl_fuel f g _ _ (by omega) (by omega)
    · rw [if_neg h, if_neg h]
theorem mtl_step {l : Int} (s : ByteArray) (h : 0 < l) : mtl ((l.tdiv 10).toNat + 1) (l.tdiv 10) (byte1 (IntKind.u8.wrap (48 + l.tmod 10)) ++ s) = mtl (l.toNat + 1) l s := by
  conv => rhs; rw [mtl, if_pos h]
  have : l.tdiv 10 < l := by rw [Int.tdiv_eq_ediv_of_nonneg (by omega)]; omega
  exact mtl_fuel _ _ _ _ (by omega) (by omega)
theorem mtl_done {l : Int} (f : Nat) (s : ByteArray) (h : ¬ 0 < l) : mtl f l s = s := by
  cases f with
  | zero => rfl
  | succ f => rw [mtl, if_neg h]
/-- The text of a mark. -/
def mtext (k : Int) : ByteArray := if k ≤ 0 then ⟨#[109, 48]⟩ else (⟨#[109]⟩ : ByteArray) ++ mtl (k.toNat + 1) k ⟨#[]⟩
theorem x_str1 {n : Int} (ho : o.op = .convert t u x) (hx : NewL [.int .u8 n] e (ρ x) w) (hs : P.underlying t = some (.slice e)) (he : P.underlying e = some (.int .u8)) (hd : P.underlying u = some .string) : (execOp ρ o).run P w = .ok (.value (.string (byte1 n))) w := by
  obtain ⟨g, h1, h2⟩ := hx
  have hr := run_loadCells_list (P := P) (w := w) ⟨g, 0, none⟩ [.int .u8 n] (blk_list h2 0 rfl)
  have h3 := run_bytesToString (P := P) w ⟨g, 0, none⟩ 1 1 [n] (by simpa using hr)
  unfold execOp
  rw [ho]
  simp [h1, run_convert_bytes_string w t u e _ 1 1 hs he hd, h3, byte1]
end
end Go.Proofs.Ytideafkiaipnoaa.Q

/- Marks: what they make of a row; whether they stand. -/
namespace Go.Proofs.Ytideafkiaipnoaa.Q
set_option linter.unusedVariables false
set_option linter.unusedSimpArgs false
open Go Go.RowKit Go.Proofs.YtideafkiaipnoaaW.PrintWords Go.Proofs.Ytideafkiaipnoaa.Deed
/-- How an element is marked; with how many marks. -/
structure Mk (α : Type) where
  tok : α → Int → α
  cnt : α → Int
  pos : ∀ x, 0 ≤ cnt x
  same : ∀ x k, cnt (tok x k) = cnt x
  idem : ∀ x k, tok (tok x k) k = tok x k
section
variable {α : Type} (M : Mk α)
def cntL : List α → Int
  | [] => 0
  | x :: r => M.cnt x + cntL r
def mkL : List α → Int → List α
  | [], _ => []
  | x :: r, k => M.tok x k :: mkL r (k + M.cnt x)
noncomputable def heldL : List α → Int → Int
  | [], k => k
  | x :: r, k => by classical exact if x = M.tok x k then heldL r (k + M.cnt x) else -1
def mkU (xs : List α) (k : Int) (i : Nat) : List α := mkL M (xs.take i) k ++ xs.drop i
variable {M}
theorem cntL_pos : ∀ xs : List α, 0 ≤ cntL M xs
  | [] => Int.le_refl _
  | x :: r => by have := M.pos x; have := cntL_pos r; simp only [cntL]; omega
theorem mkL_length : ∀ (xs : List α) (k : Int), (mkL M xs k).length = xs.length
  | [], _ => rfl
  | x :: r, k => by simp [mkL, mkL_length r]
theorem held_mk : ∀ (xs : List α) (k : Int), heldL M (mkL M xs k) k = k + cntL M xs
  | [], k => by simp [heldL, mkL, cntL]
  | x :: r, k => by
    have h := held_mk r (k + M.cnt x)
    simp only [mkL, heldL, cntL, M.idem, M.same, if_true, h]
    omega
theorem cntL_snoc (xs : List α) (x : α) : cntL M (xs ++ [x]) = cntL M xs + M.cnt x := by
  induction xs with
  | nil => simp [cntL]
  | cons y r ih => simp only [List.cons_append, cntL, ih]; omega
theorem mkL_snoc : ∀ (xs : List α) (x : α) (k : Int), mkL M (xs ++ [x]) k = mkL M xs k ++ [M.tok x (k + cntL M xs)]
  | [], x, k => by simp [mkL, cntL]
  | y :: r, x, k => by
    simp only [List.cons_append, mkL, mkL_snoc r x, cntL]
    rw [show k + M.cnt y + cntL M r = k + (M.cnt y + cntL M r) by omega]
variable [Inhabited α]
theorem gd_take {xs : List α} {i : Int} (h0 : 0 ≤ i) (h1 : i < xs.length) : xs.take (i + 1).toNat = xs.take i.toNat ++ [gd xs i] := by
  rw [show (i + 1).toNat = i.toNat + 1 by omega, List.take_add_one, gd_of h0 h1]; rfl
theorem gd_drop {xs : List α} {i : Int} (h0 : 0 ≤ i) (h1 : i < xs.length) : xs.drop i.toNat = gd xs i :: xs.drop (i + 1).toNat := by
  rw [show (i + 1).toNat = i.toNat + 1 by omega]
  have h := gd_of h0 h1
  have hl : i.toNat < xs.length := by omega
  rw [List.drop_eq_getElem_cons hl]
  congr 1
  rw [List.getElem?_eq_getElem hl] at h
  exact Option.some.inj h
theorem cntL_step {xs : List α} {i : Int} (h0 : 0 ≤ i) (h1 : i < xs.length) : cntL M (xs.take (i + 1).toNat) = cntL M (xs.take i.toNat) + M.cnt (gd xs i) := by rw [gd_take h0 h1, cntL_snoc]
omit [Inhabited α] in
theorem cntL_app (xs ys : List α) : cntL M (xs ++ ys) = cntL M xs + cntL M ys := by
  induction xs with
  | nil => simp [cntL]
  | cons x r ih => simp only [List.cons_append, cntL, ih]; omega
theorem cntL_part {xs : List α} {i : Int} (h0 : 0 ≤ i) (h1 : i < xs.length) : cntL M (xs.take i.toNat) + M.cnt (gd xs i) ≤ cntL M xs := by
  have h := cntL_app (M := M) (xs.take (i + 1).toNat) (xs.drop (i + 1).toNat)
  rw [List.take_append_drop] at h
  have := cntL_pos (M := M) (xs.drop (i + 1).toNat)
  rw [h, cntL_step h0 h1]
  omega
theorem held_yes {xs : List α} {k : Int} {i : Int} (h0 : 0 ≤ i) (h1 : i < xs.length) (h : gd xs i = M.tok (gd xs i) k) : heldL M (xs.drop i.toNat) k = heldL M (xs.drop (i + 1).toNat) (k + M.cnt (gd xs i)) := by
  rw [gd_drop h0 h1, heldL, if_pos h]
theorem held_no {xs : List α} {k : Int} {i : Int} (h0 : 0 ≤ i) (h1 : i < xs.length) (h : gd xs i ≠ M.tok (gd xs i) k) : heldL M (xs.drop i.toNat) k = -1 := by
  rw [gd_drop h0 h1, heldL, if_neg h]
omit [Inhabited α] in
theorem held_end {xs : List α} {k : Int} {i : Int} (h1 : xs.length ≤ i.toNat) : heldL M (xs.drop i.toNat) k = k := by
  rw [List.drop_eq_nil_of_le h1]; rfl
omit [Inhabited α] in
theorem mkU_length (xs : List α) (k : Int) (i : Nat) : (mkU M xs k i).length = xs.length := by
  simp [mkU, mkL_length]; omega
theorem mkU_at {xs : List α} {k i : Int} (h0 : 0 ≤ i) (h1 : i < xs.length) : (mkU M xs k i.toNat)[i.toNat]? = some (gd xs i) := by
  unfold mkU
  rw [List.getElem?_append_right (by rw [mkL_length]; simp; omega), mkL_length, gd_drop h0 h1]
  have : i.toNat - (xs.take i.toNat).length = 0 := by simp; omega
  rw [this]; rfl
theorem mkU_set {xs : List α} {k i : Int} (h0 : 0 ≤ i) (h1 : i < xs.length) : (mkU M xs k i.toNat).set i.toNat (M.tok (gd xs i) (k + cntL M (xs.take i.toNat))) = mkU M xs k (i + 1).toNat := by
  unfold mkU
  have hl : (mkL M (xs.take i.toNat) k).length = i.toNat := by rw [mkL_length]; simp; omega
  rw [List.set_append_right _ _ (by omega), hl, Nat.sub_self, gd_drop h0 h1, List.set_cons_zero, gd_take h0 h1, mkL_snoc]
  simp
omit [Inhabited α] in
theorem mkU_zero (xs : List α) (k : Int) : mkU M xs k (0 : Int).toNat = xs := by simp [mkU, mkL]
omit [Inhabited α] in
theorem mkU_end {xs : List α} {k i : Int} (h1 : xs.length ≤ i.toNat) : mkU M xs k i.toNat = mkL M xs k := by
  unfold mkU
  rw [List.take_of_length_le h1, List.drop_eq_nil_of_le h1, List.append_nil]
omit [Inhabited α] in
theorem set_back {xs : List α} {i : Nat} {x : α} (h : xs[i]? = some x) : xs.set i x = xs := by
  obtain ⟨hl, e⟩ := List.getElem?_eq_some_iff.1 h
  rw [← e, List.set_getElem_self]
end
/-- The store of one cell into an element that is being written. -/
theorem rstoreE {α : Type} {E : Enc α} {P : Program} {ops : Array Oper} {l : List FS} {dead : List (List Nat)} {k : Nat} {o : Oper} {a : Act} {t : TypeId} {x y : Operand} {w W : World} {A : Option Addr} {base : List α} {i j lo hi : Nat} {x0 x1 : α} {p : Addr} {u : Value}
    (hg : o.guard = none) (ho : o.op = .store t x y) (hx : a.eval x = .pointer (some p)) (hp : p = (adr A).add (i * E.n + j)) (hy : a.eval y = u) (h1 : u.oneCell' = true) (hs : (P.info? t).map (·.size) = some 1) (H : OwnAt E w A (base.set i x0) lo hi) (hb : Below w.heap.size w W) (hil : i < base.length)
    (he : E.enc x1 = (E.enc x0).set j u) (hin : E.inn x1 = E.inn x0) (hj : j < E.n) (hF : ∀ W', OwnAt E W' A (base.set i x1) lo hi → Kx (Mine lo hi) w W' → LH l k (upd (sl a) o.dst undef) W') (hk : KeepL (sl a) W (W.setCell p u) k (dead.getD k []) 0 l) :
    Runs P ops o a W (OweL l dead k o (sl a) W) := by
  obtain ⟨⟨v, hv⟩, hf, h2, h3⟩ := (H.below hb).set (i := i) (x1 := x1) (by rw [List.getElem?_set_self hil]) he hin hj
  rw [List.set_set] at h2
  rw [← hp] at hv hf h2 h3
  exact runs_skip (wanted_none hg) (x_store1 ho hx hy h1 hs hv hf) (owe_keep hk (hF _ h2 (kx_tr (kx_of_below hb _) h3)))
theorem OwnAt.same {α : Type} {E : Enc α} {w : World} {A : Option Addr} {xs : List α} {lo hi i : Nat} {x0 x1 : α} (h : OwnAt E w A xs lo hi) (hx : xs[i]? = some x0) (he : E.enc x1 = E.enc x0) (hi1 : E.inn x1 = E.inn x0) : OwnAt E w A (xs.set i x1) lo hi := by
  have hil : i < xs.length := (List.getElem?_eq_some_iff.1 hx).1
  have key : ∀ (a : Nat) (y : α), (xs.set i x1)[a]? = some y → ∃ y', xs[a]? = some y' ∧ E.enc y = E.enc y' ∧ E.inn y = E.inn y' := by
    intro a y hy
    by_cases e : a = i
    · subst e
      rw [List.getElem?_set_self hil] at hy
      cases hy
      exact ⟨x0, hx, he, hi1⟩
    · rw [List.getElem?_set_ne (Ne.symm e)] at hy
      exact ⟨y, hy, rfl, rfl⟩
  refine ⟨?_, ?_, ?_, ?_⟩
  · rcases h.out with h1 | ⟨g, L, h1, h2, h3, h4, h5⟩
    · rw [h1] at hx; simp at hx
    · refine .inr ⟨g, L, h1, h2, h3, h4, fun a y hy j u hu => ?_⟩
      obtain ⟨y', u1, u2, _⟩ := key a y hy
      exact h5 a y' u1 j u (u2 ▸ hu)
  · intro a y B ys hy hin
    obtain ⟨y', u1, _, u3⟩ := key a y hy
    exact h.inn a y' B ys u1 (u3 ▸ hin)
  · intro a y g ys hy hin hne
    obtain ⟨y', u1, _, u3⟩ := key a y hy
    exact h.far a y' g ys u1 (u3 ▸ hin) hne
  · intro a b y z g ys zs hy hz hiy hiz
    obtain ⟨y', u1, _, u3⟩ := key a y hy
    obtain ⟨z', v1, _, v3⟩ := key b z hz
    exact h.dis a b y' z' g ys zs u1 v1 (u3 ▸ hiy) (v3 ▸ hiz)
/-- A whole element stored into a row that is being made. -/
theorem rstoreC {α : Type} {E : Enc α} {P : Program} {ops : Array Oper} {l : List FS} {dead : List (List Nat)} {k : Nat} {o : Oper} {a : Act} {t : TypeId} {x y : Operand} {w W : World} {g lo n i : Nat} {xs : List α} {x1 : α}
    (hg : o.guard = none) (ho : o.op = .store t x y) (hx : a.eval x = .pointer (some ⟨g, i * E.n, none⟩)) (hy : a.eval y = .agg (E.enc x1).toArray) (h1 : ∀ v ∈ E.enc x1, v.oneCell' = true) (hs : (P.info? t).map (·.size) = some (E.enc x1).length)
    (H : Cpy E w g lo n xs) (hil : xs.length = i) (hn : i < n) (hb : Below w.heap.size w W) (hlo : lo ≤ w.heap.size) (hin : ∀ B ys, E.inn x1 = some (B, ys) → ∃ gt : Nat, B = some ⟨gt, 0, none⟩ ∧ w.heap.size ≤ gt ∧ IB W gt ys 3)
    (hF : ∀ W', Cpy E W' g lo n (xs ++ [x1]) → Kx (fun k => k = g) w W' → LH l k (upd (sl a) o.dst undef) W') (hk : ∀ W', KeepL (sl a) W W' k (dead.getD k []) 0 l) : Runs P ops o a W (OweL l dead k o (sl a) W) := by
  subst hil
  have hgw : g < w.heap.size := by obtain ⟨L, h2, _⟩ := H; exact blk_lt h2
  have hold := H
  replace H := H.below hb
  refine runs_skip (wanted_none hg) (x_storeS (cs := E.enc x1) ho hx hy h1 hs (fun j hj => H.cells hn j (by rwa [E.len] at hj)) (fun j _ => H.free _)) (owe_keep (hk _) (hF _ (H.store hn x1 ?_) (kx_tr (kx_of_below hb _) (kx_cells (fun k => k = g) rfl))))
  intro B ys hB
  obtain ⟨gt, rfl, h3, h4⟩ := hin B ys hB
  refine ⟨OwnI.of_IB h4 (by omega) (blk_lt h4), fun e => ?_, ?_⟩
  · injection e with e
    injection e with e _ _
    omega
  · intro g' e i' x' ys' hx' hy' hne
    exfalso
    injection e with e
    injection e with e _ _
    subst e
    obtain ⟨L, _, _, _, h5⟩ := hold
    rcases h5.inn i' x' _ ys' hx' hy' with h6 | ⟨g2, L2, e2, _, h7, _⟩
    · exact hne h6
    · injection e2 with e2
      injection e2 with e2 _ _
      omega
theorem rmakeC {α : Type} {E : Enc α} {P : Program} {ops : Array Oper} {l : List FS} {dead : List (List Nat)} {k : Nat} {o : Oper} {ac : Act} {w W : World} {x y : Operand} {t e : TypeId} {a : Int} {n bytes : Nat} {z : Value} (hgr : AllGrow (l.map FS.H)) (hg : o.guard = none) (ho : o.op = .makeSlice t x y) (hx : ac.eval x = .int .i64 a) (hy : ac.eval y = .int .i64 a) (ht : P.underlying t = some (.slice e)) (hi : (P.info? e).map (fun i => (i.zero, i.size, i.bytes)) = some (some z, E.n, bytes)) (he : e = E.T) (ha : a = (n : Int)) (hn : n ≤ 1048576) (hs : E.n ≤ 1024) (hb : bytes ≤ 1048576) (hw : w.heap.size ≤ W.heap.size)
    (hF : ∀ (g : Nat) (W' : World), Cpy E W' g w.heap.size n [] → LH l k (upd (sl ac) o.dst (.slice (some ⟨g, 0, none⟩) n n)) W') : Runs P ops o ac W (OweL l dead k o (sl ac) W) := by
  subst he
  exact rmakeO hgr hg ho hx hy ht hi ha hn hs hb fun L W' h1 h2 => hF _ _ (Cpy.start h2 h1 hw)
/-- The integers of an element marked by a call. -/
theorem rmarkI {α : Type} {E : Enc α} {P : Program} {ops : Array Oper} {l : List FS} {dead : List (List Nat)} {k : Nat} {o : Oper} {a : Act} {w W : World} {A B : Option Addr} {base : List α} {i lo hi c : Nat} {x0 x1 : α} {ys : List Int} {kk : Int} {f : FuncId} {fn : Func} {ars : Array Operand} {ts : Array TypeId}
    (hf : P.funcs[f]? = some fn) (hname : (fn.name == "runtime.NumGoroutine") = false) (hbd : fn.body.isSome = true) (hg : o.guard = none) (hop : o.op = .call { callee := .value (.func f), args := ars, argTypes := ts }) (hargs : ars.map a.eval = #[.slice B ys.length c, .int .i64 kk])
    (hc : ∀ (g : Nat) (A : Option Addr) (n c : Nat) (k : Int) (w : World), WI w g A n → 0 ≤ k → k + n ≤ 4503599627370496 → Calls P f #[.slice A n c, .int .i64 k] w fun e w' => e = .returned (.int .i64 (k + n)) ∧ MI w' g A n k n ∧ Kx (fun k => k = g) w w')
    (hx : (base.set i x0)[i]? = some x0) (hi0 : E.inn x0 = some (B, ys)) (he : E.enc x1 = E.enc x0) (hi1 : E.inn x1 = some (B, mk kk ys.length)) (H : OwnAt E w A (base.set i x0) lo hi) (hb : Below w.heap.size w W) (h0 : 0 ≤ kk) (h1 : kk + ys.length ≤ 4503599627370496)
    (hF : ∀ W', OwnAt E W' A ((base.set i x0).set i x1) lo hi → Kx (Mine lo hi) w W' → LH l k (upd (sl a) o.dst (.int .i64 (kk + ys.length))) W') (hk : ∀ W', KeepL (sl a) W W' k (dead.getD k []) 0 l) : Runs P ops o a W (OweL l dead k o (sl a) W) := by
  have HW := H.below hb
  by_cases hne : ys = []
  · subst hne
    refine runs_call hf hname hbd _ (wanted_none hg) hop hargs ((hc W.heap.size B 0 c kk W (.inl rfl) h0 h1).mono fun e W' ⟨e1, _, e3⟩ => ⟨_, e1, owe_keep (hk W') (hF W' ?_ ?_)⟩)
    · have hbl : Kx (fun _ => False) W W' := ⟨e3.os, e3.tape, e3.output, e3.size, fun k hk' _ => e3.block k hk' (by omega)⟩
      exact (HW.kx hbl (fun _ _ _ h => h)).same hx he (by rw [hi1, hi0]; rfl)
    · have hbl : Kx (Mine lo hi) W W' := ⟨e3.os, e3.tape, e3.output, e3.size, fun k hk' _ => e3.block k hk' (by omega)⟩
      exact kx_tr (kx_of_below hb _) hbl
  · obtain ⟨g, hB, hlo, hhi, hWI⟩ := (HW.inn i x0 B ys hx hi0).WI hne
    refine runs_call hf hname hbd _ (wanted_none hg) hop hargs ((hc g B ys.length c kk W hWI h0 h1).mono fun e W' ⟨e1, e2, e3⟩ => ⟨_, e1, owe_keep (hk W') (hF W' ?_ ?_)⟩)
    · exact HW.mark hx hi0 he hi1 (mk_length _ _) hne hB e3 (e2.own hlo hhi)
    · exact kx_tr (kx_of_below hb _) (kx_wide e3 fun j e => by subst e; exact ⟨hlo, hhi⟩)
end Go.Proofs.Ytideafkiaipnoaa.Q

/- Functions walked. -/
namespace Go.Proofs.Ytideafkiaipnoaa.Q
open Go Go.RowKit Go.Proofs.YtideafkiaipnoaaW.PrintWords Go.Proofs.YtideafkiaipnoaaW.PrintLast Go.Proofs.Ytideafkiaipnoaa.Deed
set_option maxRecDepth 100000
set_option linter.unusedVariables false
set_option linter.unusedSimpArgs false
set_option maxHeartbeats 2000000 in
theorem mtext_calls (k : Int) (w : World) (hk : k ≤ 4503599627370496) : Calls Try.prog 52 #[.int .i64 k] w fun e w' => e = .returned (.string (mtext k)) ∧ Below w.heap.size w w' := by
  refine calls_of_wp Try.func52 rfl ?_
  refine enter_ (N := 20) rfl ?_
  rintro a0 hN hD ⟨s0, -⟩
  have HB : Below w.heap.size w w := Below.refl _ _
  refine wp_seq ?_
  refine deedL [.eq 2 (.string (⟨#[]⟩ : ByteArray)), .eq 0 (.int .i64 k), .w (Below w.heap.size w)] 20 [[]] [] [1, 2] hM hN hD (by kernel_rfl) ⟨s0, ⟨Below.refl _ _, below_drew (Below.refl _ _)⟩, trivial⟩ ⟨fun _ _ hb h => below_step h hb, trivial⟩ (fun hgrow => ⟨fun _ _ _ => rv rfl (x_assign rfl rfl) rfl, trivial⟩) ?_
  clear s0
  clear hN hD
  rintro a1 w1 hN hD ⟨s0, hGR, -⟩
  replace HB := below_step HB hGR
  clear hGR
  show Code.wp _ _ _ _ _
  refine wp_seq ?_
  refine wp_seq ?_
  refine deedL [.eq 4 (.int .i64 k), .eq 5 (.bool (decide (k ≤ 0))), .eq 0 (.int .i64 k), .w (Below w1.heap.size w1)] 20 [[2], [0]] [] [1, 2, 3] hM hN hD (by kernel_rfl) ⟨s0, ⟨Below.refl _ _, below_drew (Below.refl _ _)⟩, trivial⟩ ⟨fun _ _ hb h => below_step h hb, trivial⟩ (fun hgrow => ⟨fun _ _ h => rv rfl (x_move rfl h.1) rfl,
    fun _ _ h => rv rfl (x_leq rfl h.1 rfl) rfl, trivial⟩) ?_
  clear s0
  clear hN hD
  rintro a2 w2 hN hD ⟨s5, s0, hGR, -⟩
  replace HB := below_step HB hGR
  clear hGR
  show Code.wp _ _ _ _ _
  refine wp_cond (t := decide (k ≤ 0)) s5 ?_
  rcases Bool.eq_false_or_eq_true (decide (k ≤ 0)) with cd3 | cd3
  · rw [cd3]
    show Code.wp _ _ _ _ _
    have pd3 := of_decide_eq_true cd3
    refine wp_seq ?_
    refine deedL [.eq 2 (.string (⟨#[109, 48]⟩ : ByteArray)), .w (Below w2.heap.size w2)] 20 [[]] [] [0, 1] hM hN hD (by kernel_rfl) ⟨⟨Below.refl _ _, below_drew (Below.refl _ _)⟩, trivial⟩ ⟨fun _ _ hb h => below_step h hb, trivial⟩ (fun hgrow => ⟨fun _ _ _ => rv rfl (x_assign rfl rfl) rfl, trivial⟩) ?_
    clear s0 s5
    clear hN hD
    rintro a4 w4 hN hD ⟨s2, hGR, -⟩
    replace HB := below_step HB hGR
    clear hGR
    show Code.wp _ _ _ _ _
    refine wp_ret (then_ret ?_)
    refine bodyPost_ret (results_single rfl (vtmp s2 .nil)) hD ?_
    exact ⟨by unfold mtext; rw [if_pos (by omega)], HB⟩
  · rw [cd3]
    show Code.wp _ _ _ _ _
    have pd3 := of_decide_eq_false cd3
    refine wp_skip ?_
    show Code.wp _ _ _ _ _
    refine wp_seq ?_
    refine deedL [.eq 3 (.string (⟨#[]⟩ : ByteArray)), .eq 0 (.int .i64 k), .w (Below w2.heap.size w2)] 20 [[]] [] [0, 1, 2] hM hN hD (by kernel_rfl) ⟨s0, ⟨Below.refl _ _, below_drew (Below.refl _ _)⟩, trivial⟩ ⟨fun _ _ hb h => below_step h hb, trivial⟩ (fun hgrow => ⟨fun _ _ _ => rv rfl (x_assign rfl rfl) rfl, trivial⟩) ?_
    clear s0 s5
    clear hN hD
    rintro a5 w5 hN hD ⟨s3, s0, hGR, -⟩
    replace HB := below_step HB hGR
    clear hGR
    show Code.wp _ _ _ _ _
    refine wp_seq ?_
    refine wp_block ?_
    refine wp_loopN (fun n_ q_ w_ => ∃ (l : Int) (s : ByteArray), (q_.tmps.size = 20) ∧ (q_.defers = []) ∧ (sl q_ 0 = .int .i64 l) ∧ (sl q_ 3 = .string s) ∧ (Below w.heap.size w w_) ∧ (0 ≤ l) ∧ ((s.size : Int) + l ≤ k) ∧ (mtl (l.toNat + 1) l s = mtl (k.toNat + 1) k ⟨#[]⟩) ∧ (n_ = l.toNat)) ((fun (l : Int) (s : ByteArray) => l.toNat) k (⟨#[]⟩ : ByteArray)) ?_ ?_
    · exact ⟨k, (⟨#[]⟩ : ByteArray), hN, hD, s0, s3, HB, (by omega), (by show (0 : Int) + k ≤ k; omega), rfl, rfl⟩
    clear s0 s3 HB hN hD
    rintro n_6 a6 w6 ⟨l, s, hN, hD, s0, s3, HB, hl0, hs, hmt, hmeas⟩
    refine wp_seq ?_
    refine wp_seq ?_
    refine deedL [.eq 6 (.int .i64 l), .eq 7 (.bool (decide (0 < l))), .eq 0 (.int .i64 l), .eq 3 (.string s), .w (Below w6.heap.size w6)] 20 [[2], [0]] [] [1, 2, 3, 4] hM hN hD (by kernel_rfl) ⟨s0, s3, ⟨Below.refl _ _, below_drew (Below.refl _ _)⟩, trivial⟩ ⟨fun _ _ hb h => below_step h hb, trivial⟩ (fun hgrow => ⟨fun _ _ h => rv rfl (x_move rfl h.1) rfl,
      fun _ _ h => rv rfl (x_gtr rfl h.1 rfl) rfl, trivial⟩) ?_
    clear s0 s3
    clear hN hD
    rintro a7 w7 hN hD ⟨s7, s0, s3, hGR, -⟩
    replace HB := below_step HB hGR
    clear hGR
    show Code.wp _ _ _ _ _
    refine wp_cond (t := decide (0 < l)) s7 ?_
    rcases Bool.eq_false_or_eq_true (decide (0 < l)) with cd8 | cd8
    · rw [cd8]
      show Code.wp _ _ _ _ _
      have pd8 := of_decide_eq_true cd8
      have hl1 := pd8
      refine wp_skip ?_
      show Code.wp _ _ _ _ _
      refine wp_block ?_
      refine wp_seq ?_
      have hq : 0 ≤ l.tmod 10 ∧ l.tmod 10 < 10 := by rw [Int.tmod_eq_emod_of_nonneg (by omega)]; omega
      refine deedL [.eq 8 (.int .i64 l), .eq 9 (.int .i64 (l.tmod 10)), .eq 10 (.int .i64 (48 + (l.tmod 10))), .eq 11 (.int .u8 (IntKind.u8.wrap (48 + l.tmod 10))), .s1 12 (NewL [.int .u8 (IntKind.u8.wrap (48 + l.tmod 10))] 5), .eq 13 (.string (byte1 (IntKind.u8.wrap (48 + l.tmod 10)))), .eq 14 (.string s), .eq 15 (.string (byte1 (IntKind.u8.wrap (48 + l.tmod 10)) ++ s)), .eq 3 (.string (byte1 (IntKind.u8.wrap (48 + l.tmod 10)) ++ s)), .eq 0 (.int .i64 l), .eq 3 (.string s), .w (Below w7.heap.size w7)] 20 [[9], [0], [1], [2], [3], [4], [10], [5, 6], [7]] [[], [], [], [], [], [], [], [], [10]] [8, 9, 11] hM hN hD (by kernel_rfl) ⟨s0, s3, ⟨Below.refl _ _, below_drew (Below.refl _ _)⟩, trivial⟩ ⟨fun _ _ _ hb h => h.grow hb, fun _ _ hb h => below_step h hb, trivial⟩ (fun hgrow => ⟨fun _ _ h => rv rfl (x_move rfl h.1) rfl,
        fun _ _ h => rv rfl (x_rem rfl h.1 rfl (by decide)) rfl,
        fun _ _ h => rv rfl (x_add' rfl rfl h.1 (by omega)) rfl,
        fun _ _ h => rv rfl (x_int rfl h.1 Try.underlying3 Try.underlying5) rfl,
        fun _ _ h => rbuild1 hgrow rfl rfl Try.underlying124 zi5 (by decide) (by decide) h.1 rfl rfl (fun _ _ z => z),
        fun _ _ h => rv rfl (x_str1 rfl h.1 Try.underlying124 Try.underlying5 Try.underlying9) rfl,
        fun _ _ h => rv rfl (x_move rfl h.1) rfl,
        fun _ _ h => rv rfl (x_sadd rfl h.1 h.2.1 (by rw [byte1_size]; omega)) rfl,
        fun _ _ h => rv rfl (x_assign rfl h.1) rfl, trivial⟩) ?_
      clear s0 s3 s7
      clear hN hD
      rintro a9 w9 hN hD ⟨s3, s0, hGR, -⟩
      replace HB := below_step HB hGR
      clear hGR
      show Code.wp _ _ _ _ _
      have hq2 : 0 ≤ l.tdiv 10 ∧ l.tdiv 10 < l := by rw [Int.tdiv_eq_ediv_of_nonneg (by omega)]; omega
      refine deedL [.eq 16 (.int .i64 l), .eq 17 (.int .i64 (l.tdiv 10)), .eq 0 (.int .i64 (l.tdiv 10)), .eq 0 (.int .i64 l), .eq 3 (.string (byte1 (IntKind.u8.wrap (48 + l.tmod 10)) ++ s)), .w (Below w9.heap.size w9)] 20 [[3], [0], [1]] [[], [], [3]] [2, 4, 5] hM hN hD (by kernel_rfl) ⟨s0, s3, ⟨Below.refl _ _, below_drew (Below.refl _ _)⟩, trivial⟩ ⟨fun _ _ hb h => below_step h hb, trivial⟩ (fun hgrow => ⟨fun _ _ h => rv rfl (x_move rfl h.1) rfl,
        fun _ _ h => rv rfl (x_quo' rfl h.1 rfl (by decide) (by omega)) rfl,
        fun _ _ h => rv rfl (x_assign rfl h.1) rfl, trivial⟩) ?_
      clear s0 s3
      clear hN hD
      rintro a10 w10 hN hD ⟨s0, s3, hGR, -⟩
      replace HB := below_step HB hGR
      clear hGR
      show ∃ m, m < n_6 ∧ _
      exact ⟨_, (by omega), ⟨(l.tdiv 10), byte1 (IntKind.u8.wrap (48 + l.tmod 10)) ++ s, hN, hD, s0, s3, HB, (by omega), (by rw [ByteArray.size_append, byte1_size]; omega), ((mtl_step s hl1).trans hmt), rfl⟩⟩
    · rw [cd8]
      show Code.wp _ _ _ _ _
      have pd8 := of_decide_eq_false cd8
      refine wp_exit (then_exit (then_exit (at_exit ?_)))
      show Code.wp _ _ _ _ _
      refine wp_seq ?_
      refine deedL [.eq 18 (.string s), .eq 19 (.string ((⟨#[109]⟩ : ByteArray) ++ s)), .eq 2 (.string ((⟨#[109]⟩ : ByteArray) ++ s)), .eq 3 (.string s), .w (Below w7.heap.size w7)] 20 [[3], [0], [1]] [] [2, 3, 4] hM hN hD (by kernel_rfl) ⟨s3, ⟨Below.refl _ _, below_drew (Below.refl _ _)⟩, trivial⟩ ⟨fun _ _ hb h => below_step h hb, trivial⟩ (fun hgrow => ⟨fun _ _ h => rv rfl (x_move rfl h.1) rfl,
        fun _ _ h => rv rfl (x_sadd rfl rfl h.1 (by rw [show (⟨#[109]⟩ : ByteArray).size = 1 from rfl]; omega)) rfl,
        fun _ _ h => rv rfl (x_assign rfl h.1) rfl, trivial⟩) ?_
      clear s0 s3 s7
      clear hN hD
      rintro a11 w11 hN hD ⟨s2, s3, hGR, -⟩
      replace HB := below_step HB hGR
      clear hGR
      show Code.wp _ _ _ _ _
      refine wp_ret ?_
      refine bodyPost_ret (results_single rfl (vtmp s2 .nil)) hD ?_
      exact ⟨by unfold mtext; rw [if_neg (by omega), ← hmt, mtl_done _ _ (by omega)], HB⟩
end Go.Proofs.Ytideafkiaipnoaa.Q

