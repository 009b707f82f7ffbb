/- A region of operations, its order drawn or not, walked by local facts: each operation leaves a fact on slots and memory; what comes later keeps it. No order is enumerated. -/
import Derived.Orders
import Derived.Tactics
import Derived.WalkKit
namespace Go.Proofs.Ytideafkiaipnoaa.Deed
open Go

/-- What the slots hold. -/
def sl (a : Act) : Nat → Value := fun t => a.tmps.getD t undef
def upd (s : Nat → Value) : Option Tmp → Value → Nat → Value
  | none, _ => s
  | some d, v => fun t => if t = d then v else s t
theorem sl_put (a : Act) (dst : Option Tmp) (v : Value) (h : ∀ d, dst = some d → d < a.tmps.size) : sl (a.put dst v) = upd (sl a) dst v := by
  cases dst with
  | none => rfl
  | some d =>
    funext t
    have hd := h d rfl
    simp only [sl, Act.put, upd, Array.getD_eq_getD_getElem?, Array.getElem?_setIfInBounds]
    by_cases e : t = d
    · subst e
      simp [hd]
    · rw [if_neg e, if_neg (fun h => e h.symm)]
theorem put_size (a : Act) (dst : Option Tmp) (v : Value) : (a.put dst v).tmps.size = a.tmps.size := by
  cases dst <;> simp [Act.put]
theorem put_defers (a : Act) (dst : Option Tmp) (v : Value) : (a.put dst v).defers = a.defers := by
  cases dst <;> rfl
theorem eval_tmp (a : Act) (t : Tmp) : a.eval (.tmp t) = sl a t := rfl

/-! ### What comes before what -/
inductive Before (ops : List Oper) : Nat → Nat → Prop where
  | edge {i : Nat} {o : Oper} {e : Edge} (h : ops[i]? = some o) (he : e ∈ o.after) (hb : Region.binds .any e = true) : Before ops i e.on
  | step {i j : Nat} {o : Oper} {e : Edge} (h : ops[i]? = some o) (he : e ∈ o.after) (hb : Region.binds .any e = true) (hj : Before ops e.on j) : Before ops i j
def befOne (acc : List Nat) : List Edge → Nat
  | [] => 0
  | e :: r => (if Region.binds .any e then 2 ^ e.on ||| acc.getD e.on 0 else 0) ||| befOne acc r
def befGo (acc : List Nat) : List Oper → List Nat
  | [] => acc
  | o :: r => befGo (acc ++ [befOne acc o.after.toList]) r
def bef (ops : List Oper) : List Nat := befGo [] ops
theorem befOne_spec {ops : List Oper} {acc : List Nat} {i : Nat} {o : Oper} (ho : ops[i]? = some o) (hacc : ∀ i j, (acc.getD i 0).testBit j = true → Before ops i j) :
    ∀ (l : List Edge), (∀ e ∈ l, e ∈ o.after) → ∀ j, (befOne acc l).testBit j = true → Before ops i j
  | [], _, j, h => by simp [befOne] at h
  | e :: r, hl, j, h => by
    unfold befOne at h
    rw [Nat.testBit_or, Bool.or_eq_true] at h
    rcases h with h | h
    · cases hb : Region.binds .any e with
      | false => rw [hb] at h; simp at h
      | true =>
        rw [hb, if_pos rfl, Nat.testBit_or, Bool.or_eq_true, Nat.testBit_two_pow] at h
        rcases h with h | h
        · have : e.on = j := by simpa using h
          subst this
          exact .edge ho (hl e (by simp)) hb
        · exact .step ho (hl e (by simp)) hb (hacc _ _ h)
    · exact befOne_spec ho hacc r (fun e he => hl e (by simp [he])) j h
theorem befGo_spec {ops : List Oper} : ∀ (r pre : List Oper) (acc : List Nat), ops = pre ++ r → acc.length = pre.length → (∀ i j, (acc.getD i 0).testBit j = true → Before ops i j) →
    ∀ i j, ((befGo acc r).getD i 0).testBit j = true → Before ops i j
  | [], _, _, _, _, hacc => hacc
  | o :: r, pre, acc, he, hl, hacc => by
    refine befGo_spec r (pre ++ [o]) _ (by simp [he]) (by simp [hl]) ?_
    intro i j h
    rcases Nat.lt_or_ge i acc.length with hi | hi
    · exact hacc i j (by simpa [List.getD_eq_getElem?_getD, List.getElem?_append_left hi] using h)
    · have hi' : i = acc.length := by
        rcases Nat.eq_or_lt_of_le hi with e | e
        · exact e.symm
        · exfalso
          have : (acc ++ [befOne acc o.after.toList])[i]? = none := List.getElem?_eq_none (by simp; omega)
          rw [List.getD_eq_getElem?_getD, this] at h
          simp at h
      subst hi'
      have ho : ops[acc.length]? = some o := by rw [he, hl]; simp
      refine befOne_spec ho hacc o.after.toList (fun e he => by simpa using he) j ?_
      simpa [List.getD_eq_getElem?_getD] using h
theorem bef_spec {ops : List Oper} {i j : Nat} (h : ((bef ops).getD i 0).testBit j = true) : Before ops i j :=
  befGo_spec ops [] [] rfl rfl (fun i j h => by simp at h) i j h

def Closed (ops : Array Oper) (listed : Array Bool) : Prop :=
  ∀ i o, ops[i]? = some o → listed.getD i false = true → ∀ e ∈ o.after, Region.binds .any e = true → listed.getD e.on false = true
theorem Closed.before {ops : Array Oper} {listed : Array Bool} (hc : Closed ops listed) {i j : Nat} (h : Before ops.toList i j) : listed.getD i false = true → listed.getD j false = true := by
  induction h with
  | edge ho he hb => exact fun hl => hc _ _ (by simpa using ho) hl _ he hb
  | step ho he hb _ ih => exact fun hl => ih (hc _ _ (by simpa using ho) hl _ he hb)

/-! ### The static check -/
def okPre (B : List Nat) (n i : Nat) (dead : List (List Nat)) (k : Nat) : Bool :=
  (decide (n ≤ k) || (B.getD i 0).testBit k) && (List.range n).all fun e => !(dead.getD e []).contains k || e == i || (B.getD e 0).testBit i || (decide (k < n) && (B.getD k 0).testBit e)
def okFin (B : List Nat) (n : Nat) (dead : List (List Nat)) (k : Nat) : Bool :=
  (List.range n).all fun e => !(dead.getD e []).contains k || (decide (k < n) && (B.getD k 0).testBit e)
def okOp (B : List Nat) (n N : Nat) (pre dead fp : List (List Nat)) (i : Nat) (o : Oper) : Bool :=
  (o.after.toList.all fun e => !Region.binds .any e || decide (e.on < i)) &&
  ((pre.getD i []).all fun k => okPre B n i dead k) &&
  (match o.dst with
   | none => true
   | some d => decide (d < N) && (List.range fp.length).all fun k => !(fp.getD k []).contains d || (dead.getD i []).contains k || (decide (k < n) && (k == i || (B.getD k 0).testBit i)))
def okAll (B : List Nat) (n N : Nat) (pre dead fp : List (List Nat)) : Nat → List Oper → Bool
  | _, [] => true
  | i, o :: r => okOp B n N pre dead fp i o && okAll B n N pre dead fp (i + 1) r
def deedOk (ops : List Oper) (N : Nat) (pre dead fp : List (List Nat)) (fin : List Nat) : Bool :=
  okAll (bef ops) ops.length N pre dead fp 0 ops && fin.all fun k => decide (k < fp.length) && okFin (bef ops) ops.length dead k
theorem okAll_spec {B : List Nat} {n N : Nat} {pre dead fp : List (List Nat)} : ∀ (l : List Oper) (k : Nat), okAll B n N pre dead fp k l = true → ∀ j o, l[j]? = some o → okOp B n N pre dead fp (k + j) o = true
  | [], _, _, _, _, h => by simp at h
  | o :: r, k, h, j, o', hj => by
    unfold okAll at h
    rw [Bool.and_eq_true] at h
    cases j with
    | zero => simp at hj; subst hj; exact h.1
    | succ j =>
      have := okAll_spec r (k + 1) h.2 j o' (by simpa using hj)
      rwa [show k + 1 + j = k + (j + 1) by omega] at this

/-! ### One operation -/
/-- The operation, if its guard lets it run, leaves a value v and a world w' of which R tells; if its guard holds it back, R tells of 'undef' and the world as it is. -/
def Runs (P : Program) (ops : Array Oper) (o : Oper) (a : Act) (w : World) (R : Value → World → Prop) : Prop :=
  if Region.wanted o (yielded ops a.tmps) = true then ∀ (K : Act → World → Prop) (Q : Exit → Act → World → Prop), (∀ v w', R v w' → K (a.put o.dst v) w') → o.wp P a w K Q else R undef w
theorem Runs.wpOp {P : Program} {ops : Array Oper} {i : Nat} {o : Oper} {a : Act} {w : World} {R : Value → World → Prop} {K : Act → World → Prop} {Q : Exit → Act → World → Prop} (hi : ops[i]? = some o)
    (h : Runs P ops o a w R) (hk : ∀ v w', R v w' → K (a.put o.dst v) w') : wpOp P ops Q i K a w := by
  unfold Go.wpOp Runs at *
  simp only [hi]
  split
  · rename_i hw
    rw [if_pos hw] at h
    exact .inl (h K Q hk)
  · rename_i hw
    rw [if_neg hw] at h
    exact hk _ _ h
theorem Runs.mono {P : Program} {ops : Array Oper} {o : Oper} {a : Act} {w : World} {R R' : Value → World → Prop} (h : Runs P ops o a w R) (hr : ∀ v w', R v w' → R' v w') : Runs P ops o a w R' := by
  unfold Runs at *
  split
  · rename_i hw
    rw [if_pos hw] at h
    exact fun K Q hk => h K Q fun v w' hv => hk v w' (hr v w' hv)
  · rename_i hw
    rw [if_neg hw] at h
    exact hr _ _ h

section
variable {P : Program} {ops : Array Oper} {Q : Exit → Act → World → Prop} {a0 : Act} {F : Nat → (Nat → Value) → World → Prop} {N : Nat} {pre dead fp : List (List Nat)} {fin : List Nat}

structure DInv (ops : Array Oper) (a0 : Act) (F : Nat → (Nat → Value) → World → Prop) (N : Nat) (dead fp : List (List Nat)) (listed : Array Bool) (a : Act) (w : World) : Prop where
  size : a.tmps.size = N
  defers : a.defers = []
  len : listed.size = ops.size
  closed : Closed ops listed
  facts : ∀ k, k < fp.length → (ops.size ≤ k ∨ listed.getD k false = true) → (∀ e, e < ops.size → listed.getD e false = true → k ∈ dead.getD e [] → k < ops.size ∧ Before ops.toList k e) → F k (sl a) w
  same : ∀ t, (∀ (i : Nat) (o : Oper), ops[i]? = some o → o.dst ≠ some t) → sl a t = sl a0 t

theorem DInv.step (hs : deedOk ops.toList N pre dead fp fin = true) (hfpl : ops.size ≤ fp.length)
    (hfp : ∀ k s s' w, k < fp.length → (∀ t ∈ fp.getD k [], s t = s' t) → F k s w → F k s' w)
    (hop : ∀ (i : Nat) (o : Oper), ops[i]? = some o → ∀ (a : Act) (w : World), a.tmps.size = N → (∀ k ∈ pre.getD i [], F k (sl a) w) →
      Runs P ops o a w fun v w' => F i (upd (sl a) o.dst v) w' ∧ ∀ k, k < fp.length → k ∉ dead.getD i [] → k ≠ i → F k (sl a) w → F k (sl a) w')
    (hpre : ∀ i k, k ∈ pre.getD i [] → k < fp.length)
    {listed : Array Bool} {a : Act} {w : World} (hI : DInv ops a0 F N dead fp listed a w) {i : Nat} {o : Oper} (ho : ops[i]? = some o) (hun : listed.getD i false = false)
    (hdeps : ∀ e ∈ o.after, Region.binds .any e = true → listed.getD e.on false = true) {K : Act → World → Prop}
    (hK : ∀ a' w', DInv ops a0 F N dead fp (listed.setIfInBounds i true) a' w' → K a' w') : wpOp P ops Q i K a w := by
  have hi : i < ops.size := (Array.getElem?_eq_some_iff.1 ho).1
  unfold deedOk at hs
  rw [Bool.and_eq_true] at hs
  have hok := okAll_spec ops.toList 0 hs.1 i o (by simpa using ho)
  rw [Nat.zero_add] at hok
  unfold okOp at hok
  simp only [Bool.and_eq_true] at hok
  obtain ⟨⟨hedge, hpok⟩, hdst⟩ := hok
  have hlen : ops.toList.length = ops.size := by simp
  have hbefl : ∀ j, Before ops.toList i j → listed.getD j false = true := by
    intro j hb
    cases hb with
    | edge h he hb => have : o = _ := Option.some.inj (ho.symm.trans (by simpa using h)); subst this; exact hdeps _ he hb
    | step h he hb hj => have : o = _ := Option.some.inj (ho.symm.trans (by simpa using h)); subst this; exact hI.closed.before hj (hdeps _ he hb)
  have hpref : ∀ k ∈ pre.getD i [], F k (sl a) w := by
    intro k hk
    have h1 := List.all_eq_true.1 hpok k hk
    unfold okPre at h1
    rw [Bool.and_eq_true] at h1
    refine hI.facts k (hpre i k hk) ?_ ?_
    · have h2 := h1.1
      rw [Bool.or_eq_true, decide_eq_true_eq, hlen] at h2
      exact h2.imp id fun h => hbefl k (bef_spec h)
    · intro e he hel hde
      have h2 := List.all_eq_true.1 h1.2 e (List.mem_range.2 (by rw [hlen]; exact he))
      simp only [Bool.or_eq_true, Bool.and_eq_true, Bool.not_eq_true', beq_iff_eq, decide_eq_true_eq] at h2
      rcases h2 with ((h2 | h2) | h2) | h2
      · exact absurd hde (by simpa using h2)
      · subst h2; rw [hun] at hel; cases hel
      · have := hI.closed.before (bef_spec h2) hel
        rw [hun] at this
        cases this
      · exact ⟨by rw [← hlen]; exact h2.1, bef_spec h2.2⟩
  refine (hop i o ho a w hI.size hpref).wpOp ho ?_
  rintro v w' ⟨hFi, hkeep⟩
  refine hK _ _ ?_
  have hdlt : ∀ d, o.dst = some d → d < a.tmps.size := by
    intro d hd
    rw [hd] at hdst
    simp only [Bool.and_eq_true, decide_eq_true_eq] at hdst
    rw [hI.size]
    exact hdst.1
  have hset : ∀ k, k ≠ i → (listed.setIfInBounds i true).getD k false = listed.getD k false := fun k hk => getD_set_ne false (Ne.symm hk)
  have hclosed : Closed ops (listed.setIfInBounds i true) := by
    intro j oj hj hl e he hb
    by_cases hij : j = i
    · subst hij
      have : oj = o := Option.some.inj (hj.symm.trans ho)
      subst this
      exact getD_set_true (hdeps e he hb)
    · rw [hset j hij] at hl
      exact getD_set_true (hI.closed j oj hj hl e he hb)
  refine ⟨by rw [put_size]; exact hI.size, by rw [put_defers]; exact hI.defers, by simpa using hI.len, hclosed, ?_, ?_⟩
  · intro k hk hl hal
    rw [sl_put a o.dst v hdlt]
    by_cases hki : k = i
    · subst hki; exact hFi
    · have hl' : ops.size ≤ k ∨ listed.getD k false = true := hl.imp id (fun h => by rwa [hset k hki] at h)
      have hnodead : k ∉ dead.getD i [] := by
        intro hd
        have h3 := hal i hi (by simp [hI.len, hi]) hd
        rcases hl' with h | h
        · omega
        · have := hI.closed.before h3.2 h
          rw [hun] at this
          cases this
      have hF := hkeep k hk hnodead hki (hI.facts k hk hl' fun e he hel hde => hal e he (getD_set_true hel) hde)
      refine hfp k _ _ w' hk ?_ hF
      intro t ht
      cases hd : o.dst with
      | none => rfl
      | some d =>
        simp only [upd]
        split
        · rename_i htd
          subst htd
          exfalso
          rw [hd] at hdst
          simp only [Bool.and_eq_true, decide_eq_true_eq] at hdst
          have h4 := List.all_eq_true.1 hdst.2 k (List.mem_range.2 hk)
          simp only [Bool.or_eq_true, Bool.and_eq_true, Bool.not_eq_true', beq_iff_eq, decide_eq_true_eq, hlen] at h4
          rcases h4 with (h4 | h4) | ⟨h4, h5⟩
          · exact absurd ht (by simpa using h4)
          · exact hnodead (by simpa using h4)
          · rcases h5 with h5 | h5
            · exact hki h5
            · rcases hl' with h | h
              · omega
              · have := hI.closed.before (bef_spec h5) h
                rw [hun] at this
                cases this
        · rfl
  · intro t ht
    rw [sl_put a o.dst v hdlt, ← hI.same t ht]
    cases hd : o.dst with
    | none => rfl
    | some d =>
      simp only [upd]
      rw [if_neg]
      rintro rfl
      exact ht i o ho hd

theorem DInv.final (hs : deedOk ops.toList N pre dead fp fin = true) (hfpl : ops.size ≤ fp.length) {listed : Array Bool} {a : Act} {w : World} (hI : DInv ops a0 F N dead fp listed a w) (hall : ∀ i, i < ops.size → listed.getD i false = true) :
    ∀ k ∈ fin, F k (sl a) w := by
  intro k hk
  unfold deedOk at hs
  rw [Bool.and_eq_true] at hs
  have h1 := List.all_eq_true.1 hs.2 k hk
  rw [Bool.and_eq_true, decide_eq_true_eq] at h1
  have hlen : ops.toList.length = ops.size := by simp
  refine hI.facts k h1.1 ?_ ?_
  · rcases Nat.lt_or_ge k ops.size with h | h
    · exact .inr (hall k h)
    · exact .inl h
  · intro e he _ hde
    have h2 := h1.2
    unfold okFin at h2
    have h3 := List.all_eq_true.1 h2 e (List.mem_range.2 (by rw [hlen]; exact he))
    simp only [Bool.or_eq_true, Bool.and_eq_true, Bool.not_eq_true', decide_eq_true_eq] at h3
    rcases h3 with h3 | h3
    · exact absurd hde (by simpa using h3)
    · exact ⟨by rw [← hlen]; exact h3.1, bef_spec h3.2⟩

theorem edges_lower (hs : deedOk ops.toList N pre dead fp fin = true) {i : Nat} {o : Oper} (ho : ops[i]? = some o) : ∀ e ∈ o.after, Region.binds .any e = true → e.on < i := by
  intro e he hb
  unfold deedOk at hs
  rw [Bool.and_eq_true] at hs
  have hok := okAll_spec ops.toList 0 hs.1 i o (by simpa using ho)
  rw [Nat.zero_add] at hok
  unfold okOp at hok
  simp only [Bool.and_eq_true] at hok
  have h1 := List.all_eq_true.1 hok.1.1 e (by simpa using he)
  rw [hb] at h1
  simpa using h1

def left (n : Nat) (listed : Array Bool) : Nat := ((List.range n).filter fun i => !listed.getD i true).length
theorem left_set {n i : Nat} {listed : Array Bool} (hl : listed.size = n) (hi : i < n) (hun : listed.getD i false = false) : left n (listed.setIfInBounds i true) < left n listed := by
  unfold left
  have hsub : ∀ (l : List Nat), (l.filter fun j => !(listed.setIfInBounds i true).getD j true).length ≤ (l.filter fun j => !listed.getD j true).length ∧ (i ∈ l → (l.filter fun j => !(listed.setIfInBounds i true).getD j true).length < (l.filter fun j => !listed.getD j true).length) := by
    intro l
    induction l with
    | nil => simp
    | cons x l ih =>
      by_cases hx : x = i
      · subst hx
        have h1 : (listed.setIfInBounds x true).getD x true = true := by simp [hl, hi]
        have h2 : listed.getD x true = false := by
          have : x < listed.size := by omega
          simp [this] at hun ⊢
          exact hun
        rw [List.filter_cons, List.filter_cons, h1, h2]
        simp only [Bool.not_true, Bool.not_false, if_true, List.length_cons]
        exact ⟨Nat.le_succ_of_le ih.1, fun _ => Nat.lt_succ_of_le ih.1⟩
      · have h1 : (listed.setIfInBounds i true).getD x true = listed.getD x true := getD_set_ne true (Ne.symm hx)
        rw [List.filter_cons, List.filter_cons, h1]
        cases listed.getD x true
        · simp only [Bool.not_false, if_true, List.length_cons]
          refine ⟨by have := ih.1; omega, fun h => ?_⟩
          have := ih.2 (by rcases List.mem_cons.1 h with h | h; exact absurd h.symm hx; exact h)
          omega
        · simp only [Bool.not_true]
          refine ⟨ih.1, fun h => ih.2 (by rcases List.mem_cons.1 h with h | h; exact absurd h.symm hx; exact h)⟩
  exact (hsub _).2 (List.mem_range.2 hi)
theorem none_left (hlow : ∀ (i : Nat) (o : Oper), ops[i]? = some o → ∀ e ∈ o.after, Region.binds .any e = true → e.on < i) {listed : Array Bool} (hl : listed.size = ops.size) (hr : Region.ready .any ops listed = []) :
    ∀ i, i < ops.size → listed.getD i false = true := by
  intro i
  induction i using Nat.strongRecOn with
  | _ i ih =>
    intro hi
    cases h : listed.getD i false with
    | true => rfl
    | false =>
      exfalso
      have ho : ops[i]? = some ops[i] := Array.getElem?_eq_getElem hi
      have : i ∈ Region.ready .any ops listed := mem_ready.2 ⟨by have h' : i < listed.size := by omega
                                                                 simp [h'] at h ⊢; exact h, _, ho, fun e he hb => ih e.on (hlow i _ ho e he hb) (by have := hlow i _ ho e he hb; omega)⟩
      rw [hr] at this
      cases this

theorem deed_any (hs : deedOk ops.toList N pre dead fp fin = true) (hfpl : ops.size ≤ fp.length) (hpre : ∀ i k, k ∈ pre.getD i [] → k < fp.length)
    (hfp : ∀ k s s' w, k < fp.length → (∀ t ∈ fp.getD k [], s t = s' t) → F k s w → F k s' w)
    (hop : ∀ (i : Nat) (o : Oper), ops[i]? = some o → ∀ (a : Act) (w : World), a.tmps.size = N → (∀ k ∈ pre.getD i [], F k (sl a) w) →
      Runs P ops o a w fun v w' => F i (upd (sl a) o.dst v) w' ∧ ∀ k, k < fp.length → k ∉ dead.getD i [] → k ≠ i → F k (sl a) w → F k (sl a) w')
    (hQ : ∀ (a : Act) (w : World), a.tmps.size = N → a.defers = [] → (∀ t, (∀ (i : Nat) (o : Oper), ops[i]? = some o → o.dst ≠ some t) → sl a t = sl a0 t) → (∀ k ∈ fin, F k (sl a) w) → Q .normal a w) :
    ∀ (fuel : Nat) (listed : Array Bool) (a : Act) (w : World), left ops.size listed ≤ fuel → DInv ops a0 F N dead fp listed a w → wpAny P .any ops Q fuel listed a w := by
  have hend : ∀ (listed : Array Bool) (a : Act) (w : World), DInv ops a0 F N dead fp listed a w → Region.ready .any ops listed = [] → Q .normal a w := fun listed a w hI hr =>
    hQ a w hI.size hI.defers hI.same (hI.final hs hfpl (none_left (fun i o ho => edges_lower hs ho) hI.len hr))
  intro fuel
  induction fuel with
  | zero =>
    intro listed a w hl hI
    have hr : Region.ready .any ops listed = [] := by
      cases hr : Region.ready .any ops listed with
      | nil => rfl
      | cons i r =>
        exfalso
        have hi : i ∈ Region.ready .any ops listed := by rw [hr]; simp
        obtain ⟨h0, o, ho, _⟩ := mem_ready.1 hi
        have : i ∈ (List.range ops.size).filter fun i => !listed.getD i true := List.mem_filter.2 ⟨List.mem_range.2 (Array.getElem?_eq_some_iff.1 ho).1, by simp [h0]⟩
        unfold left at hl
        have := List.length_pos_of_mem this
        omega
    exact ⟨hr, hend listed a w hI hr⟩
  | succ fuel ih =>
    intro listed a w hl hI
    refine ⟨hend listed a w hI, fun i hi => ?_⟩
    obtain ⟨h0, o, ho, hall⟩ := mem_ready.1 hi
    have hlt : i < ops.size := (Array.getElem?_eq_some_iff.1 ho).1
    have hun : listed.getD i false = false := by
      have h' : i < listed.size := by rw [hI.len]; exact hlt
      simp [h'] at h0 ⊢
      exact h0
    exact hI.step hs hfpl hfp hop hpre ho hun hall fun a' w' hI' => ih _ a' w' (by have := left_set hI.len hlt hun; omega) hI'

theorem deed_list (hs : deedOk ops.toList N pre dead fp fin = true) (hfpl : ops.size ≤ fp.length) (hpre : ∀ i k, k ∈ pre.getD i [] → k < fp.length)
    (hfp : ∀ k s s' w, k < fp.length → (∀ t ∈ fp.getD k [], s t = s' t) → F k s w → F k s' w)
    (hop : ∀ (i : Nat) (o : Oper), ops[i]? = some o → ∀ (a : Act) (w : World), a.tmps.size = N → (∀ k ∈ pre.getD i [], F k (sl a) w) →
      Runs P ops o a w fun v w' => F i (upd (sl a) o.dst v) w' ∧ ∀ k, k < fp.length → k ∉ dead.getD i [] → k ≠ i → F k (sl a) w → F k (sl a) w')
    (hQ : ∀ (a : Act) (w : World), a.tmps.size = N → a.defers = [] → (∀ t, (∀ (i : Nat) (o : Oper), ops[i]? = some o → o.dst ≠ some t) → sl a t = sl a0 t) → (∀ k ∈ fin, F k (sl a) w) → Q .normal a w) :
    ∀ (m i : Nat) (listed : Array Bool) (a : Act) (w : World), i + m = ops.size → (∀ j, j < ops.size → listed.getD j false = decide (j < i)) → DInv ops a0 F N dead fp listed a w → wpOps P ops Q (List.range' i m) a w := by
  intro m
  induction m with
  | zero =>
    intro i listed a w him hl hI
    exact hQ a w hI.size hI.defers hI.same (hI.final hs hfpl fun j hj => by rw [hl j hj]; simp; omega)
  | succ m ih =>
    intro i listed a w him hl hI
    have hi : i < ops.size := by omega
    have ho : ops[i]? = some ops[i] := Array.getElem?_eq_getElem hi
    rw [List.range'_succ, wpOps_cons]
    refine hI.step hs hfpl hfp hop hpre ho (by rw [hl i hi]; simp) (fun e he hb => ?_) fun a' w' hI' => ih (i + 1) _ a' w' (by omega) (fun j hj => ?_) hI'
    · have := edges_lower hs ho e he hb
      rw [hl e.on (by omega)]
      simpa using this
    · by_cases hji : j = i
      · subst hji
        simp [hI.len, hj]
      · rw [getD_set_ne false (Ne.symm hji), hl j hj]
        simp only [decide_eq_decide]
        omega

/-- THE RULE. F: what each operation leaves (numbers below ops.size), and what is known before (from ops.size on); pre: what an operation needs; dead: what it destroys; fp: the slots that a fact speaks of; fin: what is wanted at the end. -/
theorem region_deed {id : Nat} {draw : Bool} {w0 : World} (F : Nat → (Nat → Value) → World → Prop) (N : Nat) (pre dead fp : List (List Nat)) (fin : List Nat) (hm : P.follows .mixedOrders = true)
    (hn : a0.tmps.size = N) (hd : a0.defers = []) (hs : deedOk ops.toList N pre dead fp fin = true) (hfpl : ops.size ≤ fp.length) (hpre : ∀ i k, k ∈ pre.getD i [] → k < fp.length)
    (h0 : ∀ k, ops.size ≤ k → k < fp.length → F k (sl a0) w0 ∧ F k (sl a0) { w0 with drawn := w0.drawn + 1 })
    (hfp : ∀ k s s' w, k < fp.length → (∀ t ∈ fp.getD k [], s t = s' t) → F k s w → F k s' w)
    (hop : ∀ (i : Nat) (o : Oper), ops[i]? = some o → ∀ (a : Act) (w : World), a.tmps.size = N → (∀ k ∈ pre.getD i [], F k (sl a) w) →
      Runs P ops o a w fun v w' => F i (upd (sl a) o.dst v) w' ∧ ∀ k, k < fp.length → k ∉ dead.getD i [] → k ≠ i → F k (sl a) w → F k (sl a) w')
    (hQ : ∀ (a : Act) (w : World), a.tmps.size = N → a.defers = [] → (∀ t, (∀ (i : Nat) (o : Oper), ops[i]? = some o → o.dst ≠ some t) → sl a t = sl a0 t) → (∀ k ∈ fin, F k (sl a) w) → Q .normal a w) :
    (Code.region id ops draw).wp P Q a0 w0 := by
  have hI : ∀ w, (∀ k, ops.size ≤ k → k < fp.length → F k (sl a0) w) → DInv ops a0 F N dead fp (Array.replicate ops.size false) a0 w := by
    intro w hw
    have hno : ∀ j, (Array.replicate ops.size false).getD j false = false := by
      intro j
      rcases Nat.lt_or_ge j ops.size with h | h <;> simp [h]
    refine ⟨hn, hd, by simp, fun i o _ hl => ?_, fun k hk hl _ => ?_, fun t _ => rfl⟩
    · rw [hno] at hl; cases hl
    · rcases hl with h | h
      · exact hw k h hk
      · rw [hno] at h; cases h
  cases draw with
  | true =>
    refine wp_region_any hm ?_
    refine deed_any hs hfpl hpre hfp hop hQ ops.size _ a0 _ ?_ (hI _ fun k h1 h2 => (h0 k h1 h2).2)
    unfold left
    exact Nat.le_trans (List.length_filter_le _ _) (by simp)
  | false =>
    refine wp_region ?_
    rw [List.range_eq_range']
    exact deed_list hs hfpl hpre hfp hop hQ ops.size 0 (Array.replicate ops.size false) a0 w0 (by omega) (fun j hj => by simp [hj]) (hI _ fun k h1 h2 => (h0 k h1 h2).1)
end
end Go.Proofs.Ytideafkiaipnoaa.Deed
