/- Single operations, as the region's rule wants them. -/
import Derived.Test.YtideafkiaipnoaaDeed
import Derived.Test.YtideafkiaipnoaaWWords
import Derived.Test.YtideafkiaipnoaaWLast
import Derived.Test.YtideafkiaipnoaaWKept
namespace Go.Proofs.Ytideafkiaipnoaa.Deed
open Go Go.RowKit Go.Proofs.YtideafkiaipnoaaW.PrintWords

/-- A value that is there only where the guard lets it. -/
def gv (g : Bool) (v : Value) : Value := if g then v else undef
theorem gv_true (v : Value) : gv true v = v := rfl
theorem gv_false (v : Value) : gv false v = undef := rfl
/-- A pointer moved on. -/
def padd (v : Value) (n : Nat) : Value := match v with
  | .pointer (some a) => .pointer (some (a.add n))
  | v => v

section
variable {P : Program} {ops : Array Oper} {o : Oper} {a : Act} {w w' : World} {R : Value → World → Prop}
theorem wanted_none (h : o.guard = none) : Region.wanted o (yielded ops a.tmps) = true := by simp [Region.wanted, h]
theorem yielded_of {j : Nat} {d : Tmp} {b : Bool} (hd : (ops[j]?).bind (·.dst) = some d) (h : sl a d = .bool b) : yielded ops a.tmps j = some b := by
  unfold yielded
  rw [hd]
  have hlt : a.tmps[d]? = some (.bool b) := by
    unfold sl at h
    rw [Array.getD_eq_getD_getElem?] at h
    cases h' : a.tmps[d]? with
    | none => rw [h'] at h; simp [undef] at h
    | some v => rw [h'] at h; simpa using h
  simp [hlt]
theorem yielded_un {j : Nat} {d : Tmp} (hd : (ops[j]?).bind (·.dst) = some d) (h : sl a d = undef) : yielded ops a.tmps j = none := by
  unfold yielded
  rw [hd]
  unfold sl at h
  rw [Array.getD_eq_getD_getElem?] at h
  cases h' : a.tmps[d]? with
  | none => simp [h']
  | some v =>
    rw [h'] at h
    simp only [Option.getD_some] at h
    subst h
    simp [h', undef]
/-- The guard's outcome: g is whether the guard's own operation ran, c what it said. -/
theorem wanted_gv {j : Nat} {d : Tmp} {b g c : Bool} (hg : o.guard = some (j, b)) (hd : (ops[j]?).bind (·.dst) = some d) (h : sl a d = gv g (.bool c)) : Region.wanted o (yielded ops a.tmps) = (g && (c == b)) := by
  unfold Region.wanted
  rw [hg]
  cases g with
  | true => simp only [yielded_of hd h, Bool.true_and]; cases c <;> cases b <;> rfl
  | false => simp only [yielded_un hd h, Bool.false_and]; cases b <;> rfl

/-- An operation that yields a value. -/
theorem runs_val {v : Value} (hw : Region.wanted o (yielded ops a.tmps) = true) (hr : (execOp a.eval o).run P w = .ok (.value v) w') (hR : R v w') : Runs P ops o a w R := by
  unfold Runs
  rw [if_pos hw]
  intro K Q hk
  unfold Oper.wp
  rw [hr]
  exact hk v w' hR
theorem runs_skip (hw : Region.wanted o (yielded ops a.tmps) = true) (hr : (execOp a.eval o).run P w = .ok .skip w') (hR : R undef w') : Runs P ops o a w R := by
  unfold Runs
  rw [if_pos hw]
  intro K Q hk
  unfold Oper.wp
  rw [hr]
  exact hk undef w' hR
theorem runs_off (hw : Region.wanted o (yielded ops a.tmps) = false) (hR : R undef w) : Runs P ops o a w R := by
  unfold Runs
  rw [hw, if_neg (by simp)]
  exact hR
theorem runs_guard {g : Bool} (hw : Region.wanted o (yielded ops a.tmps) = g) (h1 : g = true → Runs P ops o a w R) (h0 : g = false → R undef w) : Runs P ops o a w R := by
  cases g with
  | true => exact h1 rfl
  | false => exact runs_off hw (h0 rfl)
theorem runs_call {f : FuncId} {fn : Func} {as : Array Operand} {ts : Array TypeId} (hf : P.funcs[f]? = some fn) (hname : (fn.name == "runtime.NumGoroutine") = false) (hb : fn.body.isSome = true) (args : Array Value)
    (hw : Region.wanted o (yielded ops a.tmps) = true) (hop : o.op = .call { callee := .value (.func f), args := as, argTypes := ts }) (hargs : as.map a.eval = args)
    (h : Calls P f args w fun e w' => ∃ v, e = .returned v ∧ R v w') : Runs P ops o a w R := by
  unfold Runs
  rw [if_pos hw]
  intro K Q hk
  have he := Go.Proofs.YtideafkiaipnoaaW.PrintLast.enters_ hf hname hb args w
  have hrun : (execOp a.eval o).run P w = .ok (.enter f args) w := by
    unfold execOp
    simp [hop, resolve, Deferred.ofValue, invoke, Act.eval, hargs, he]
  unfold Oper.wp
  rw [hrun, Oper.upon_enter]
  refine h.mono fun e w'' hh => ?_
  obtain ⟨v, rfl, hR⟩ := hh
  exact hk v w'' hR
end

/-- What an operation owes: its own fact, and the others kept. -/
def Owes (F : Nat → (Nat → Value) → World → Prop) (m : Nat) (dead : List (List Nat)) (i : Nat) (o : Oper) (s : Nat → Value) (w : World) : Value → World → Prop :=
  fun v w' => F i (upd s o.dst v) w' ∧ ∀ k, k < m → k ∉ dead.getD i [] → k ≠ i → F k s w → F k s w'
theorem Owes.same {F : Nat → (Nat → Value) → World → Prop} {m : Nat} {dead : List (List Nat)} {i : Nat} {o : Oper} {s : Nat → Value} {w : World} {v : Value} (h : F i (upd s o.dst v) w) : Owes F m dead i o s w v w := ⟨h, fun _ _ _ _ h => h⟩
/-- A fact that grows with memory. -/
def Grows (f : (Nat → Value) → World → Prop) : Prop := ∀ s w w', Below w.heap.size w w' → f s w → f s w'
theorem Grows.slot (f : (Nat → Value) → Prop) : Grows fun s _ => f s := fun _ _ _ _ h => h
theorem Owes.grown {F : Nat → (Nat → Value) → World → Prop} {m : Nat} {dead : List (List Nat)} {i : Nat} {o : Oper} {s : Nat → Value} {w w' : World} {v : Value} (hg : ∀ k, k < m → Grows (F k)) (hb : Below w.heap.size w w') (h : F i (upd s o.dst v) w') : Owes F m dead i o s w v w' :=
  ⟨h, fun k hk _ _ hF => hg k hk s w w' hb hF⟩
/-- The facts as a list. -/
def FL (l : List ((Nat → Value) → World → Prop)) (k : Nat) : (Nat → Value) → World → Prop := l.getD k fun _ _ => True
def AllGrow : List ((Nat → Value) → World → Prop) → Prop
  | [] => True
  | f :: r => Grows f ∧ AllGrow r
theorem AllGrow.get {l : List ((Nat → Value) → World → Prop)} (h : AllGrow l) : ∀ k, Grows (FL l k) := by
  induction l with
  | nil => intro k s w w' _ _; cases k <;> trivial
  | cons f r ih =>
    intro k
    cases k with
    | zero => exact h.1
    | succ k => exact ih h.2 k
def SlotsOnly (fp : List Nat) (f : (Nat → Value) → World → Prop) : Prop := ∀ s s' w, (∀ t ∈ fp, s t = s' t) → f s w → f s' w
def AllSlots : List (List Nat) → List ((Nat → Value) → World → Prop) → Prop
  | [], [] => True
  | p :: ps, f :: r => SlotsOnly p f ∧ AllSlots ps r
  | _, _ => False
theorem AllSlots.get : ∀ {fp : List (List Nat)} {l : List ((Nat → Value) → World → Prop)}, AllSlots fp l → ∀ k, SlotsOnly (fp.getD k []) (FL l k)
  | [], [], _, k => fun s s' w _ _ => by cases k <;> trivial
  | p :: ps, f :: r, h, k => by
    cases k with
    | zero => exact h.1
    | succ k => exact AllSlots.get h.2 k
  | [], _ :: _, h, _ => h.elim
  | _ :: _, [], h, _ => h.elim
def PreAll (F : Nat → (Nat → Value) → World → Prop) (s : Nat → Value) (w : World) : List Nat → Prop
  | [] => True
  | k :: r => F k s w ∧ PreAll F s w r
theorem PreAll.of {F : Nat → (Nat → Value) → World → Prop} {s : Nat → Value} {w : World} : ∀ {l : List Nat}, (∀ k ∈ l, F k s w) → PreAll F s w l
  | [], _ => trivial
  | k :: r, h => ⟨h k (by simp), PreAll.of fun k hk => h k (by simp [hk])⟩
def AllRun (P : Program) (ops : Array Oper) (F : Nat → (Nat → Value) → World → Prop) (m N : Nat) (pre dead : List (List Nat)) : Nat → List Oper → Prop
  | _, [] => True
  | i, o :: r => (∀ (a : Act) (w : World), a.tmps.size = N → PreAll F (sl a) w (pre.getD i []) → Runs P ops o a w (Owes F m dead i o (sl a) w)) ∧ AllRun P ops F m N pre dead (i + 1) r
theorem AllRun.get {P : Program} {ops : Array Oper} {F : Nat → (Nat → Value) → World → Prop} {m N : Nat} {pre dead : List (List Nat)} : ∀ {l : List Oper} {i : Nat}, AllRun P ops F m N pre dead i l → ∀ j o, l[j]? = some o →
    ∀ (a : Act) (w : World), a.tmps.size = N → PreAll F (sl a) w (pre.getD (i + j) []) → Runs P ops o a w (Owes F m dead (i + j) o (sl a) w)
  | [], _, _, j, o, h => by simp at h
  | o :: r, i, h, j, o', hj => by
    cases j with
    | zero => simp at hj; subst hj; exact h.1
    | succ j =>
      have := AllRun.get h.2 j o' (by simpa using hj)
      rwa [show i + 1 + j = i + (j + 1) by omega] at this
def InitAll (F : Nat → (Nat → Value) → World → Prop) (s : Nat → Value) (w : World) : Nat → Nat → Prop
  | _, 0 => True
  | k, n + 1 => (F k s w ∧ F k s { w with drawn := w.drawn + 1 }) ∧ InitAll F s w (k + 1) n
theorem InitAll.get {F : Nat → (Nat → Value) → World → Prop} {s : Nat → Value} {w : World} : ∀ {n k : Nat}, InitAll F s w k n → ∀ j, k ≤ j → j < k + n → F j s w ∧ F j s { w with drawn := w.drawn + 1 }
  | 0, k, _, j, h1, h2 => by omega
  | n + 1, k, h, j, h1, h2 => by
    rcases Nat.eq_or_lt_of_le h1 with e | e
    · subst e; exact h.1
    · exact InitAll.get h.2 j e (by omega)
def preOk (pre : List (List Nat)) (m : Nat) : Bool := pre.all fun l => l.all fun k => decide (k < m)
theorem preOk_spec {pre : List (List Nat)} {m : Nat} (h : preOk pre m = true) : ∀ i k, k ∈ pre.getD i [] → k < m := by
  intro i k hk
  rcases Nat.lt_or_ge i pre.length with hi | hi
  · have h1 := List.all_eq_true.1 h (pre.getD i []) (by rw [List.getD_eq_getElem?_getD, List.getElem?_eq_getElem hi]; simp)
    have h2 := List.all_eq_true.1 h1 k hk
    simpa using h2
  · rw [List.getD_eq_getElem?_getD, List.getElem?_eq_none hi] at hk
    simp at hk
def dstsOk (ops : List Oper) (ds : List Nat) : Bool := ops.all fun o => match o.dst with
  | some d => ds.contains d
  | none => true
theorem dstsOk_spec {ops : Array Oper} {ds : List Nat} (h : dstsOk ops.toList ds = true) {t : Nat} (ht : t ∉ ds) : ∀ (i : Nat) (o : Oper), ops[i]? = some o → o.dst ≠ some t := by
  intro i o ho hd
  have h1 := List.all_eq_true.1 h o (List.mem_of_getElem? (by simpa using ho))
  rw [hd] at h1
  exact ht (by simpa using h1)

/-- THE RULE AS IT IS USED: n operations, the facts as a list (the operations' own first), all of it literal. -/
theorem deed {P : Program} {Q : Exit → Act → World → Prop} {l : List Oper} {id : Nat} {draw : Bool} {a0 : Act} {w0 : World} (Fs : List ((Nat → Value) → World → Prop)) (N : Nat) (pre dead fp : List (List Nat)) (fin ds : List Nat)
    (hm : P.follows .mixedOrders = true) (hn : a0.tmps.size = N) (hd : a0.defers = [])
    (hs : (deedOk l N pre dead fp fin && preOk pre Fs.length && dstsOk l ds && decide (fp.length = Fs.length) && decide (l.length ≤ Fs.length)) = true)
    (hfp : AllSlots fp Fs) (h0 : InitAll (FL Fs) (sl a0) w0 l.length (Fs.length - l.length))
    (hop : AllRun P l.toArray (FL Fs) Fs.length N pre dead 0 l)
    (hQ : ∀ (a : Act) (w : World), a.tmps.size = N → a.defers = [] → (∀ t, t ∉ ds → sl a t = sl a0 t) → PreAll (FL Fs) (sl a) w fin → Q .normal a w) :
    (Code.region id l.toArray draw).wp P Q a0 w0 := by
  simp only [Bool.and_eq_true, decide_eq_true_eq] at hs
  obtain ⟨⟨⟨⟨h1, h2⟩, h3⟩, h4⟩, h5⟩ := hs
  refine region_deed (ops := l.toArray) (FL Fs) N pre dead fp fin hm hn hd (by simpa using h1) (by simpa [h4] using h5) (fun i k hk => by rw [h4]; exact preOk_spec h2 i k hk) ?_ ?_ ?_ ?_
  · intro k h6 h7
    exact h0.get k (by simpa using h6) (by have : l.length ≤ k := by simpa using h6
                                           omega)
  · intro k s s' w _ h6 h7
    exact hfp.get k s s' w h6 h7
  · intro i o ho a w hN hpre
    have h6 := hop.get i o (by simpa using ho) a w hN
    rw [Nat.zero_add] at h6
    rw [h4]
    exact h6 (PreAll.of hpre)
  · intro a w hN hD hsame hfin
    exact hQ a w hN hD (fun t ht => hsame t (dstsOk_spec (by simpa using h3) ht)) (PreAll.of hfin)

/-- The same where operations make memory: the facts grow with it. -/
theorem deedG {P : Program} {Q : Exit → Act → World → Prop} {l : List Oper} {id : Nat} {draw : Bool} {a0 : Act} {w0 : World} (Fs : List ((Nat → Value) → World → Prop)) (N : Nat) (pre dead fp : List (List Nat)) (fin ds : List Nat)
    (hm : P.follows .mixedOrders = true) (hn : a0.tmps.size = N) (hd : a0.defers = [])
    (hs : (deedOk l N pre dead fp fin && preOk pre Fs.length && dstsOk l ds && decide (fp.length = Fs.length) && decide (l.length ≤ Fs.length)) = true)
    (hfp : AllSlots fp Fs) (h0 : InitAll (FL Fs) (sl a0) w0 l.length (Fs.length - l.length)) (hg : AllGrow Fs)
    (hop : AllGrow Fs → AllRun P l.toArray (FL Fs) Fs.length N pre dead 0 l)
    (hQ : ∀ (a : Act) (w : World), a.tmps.size = N → a.defers = [] → (∀ t, t ∉ ds → sl a t = sl a0 t) → PreAll (FL Fs) (sl a) w fin → Q .normal a w) :
    (Code.region id l.toArray draw).wp P Q a0 w0 := deed Fs N pre dead fp fin ds hm hn hd hs hfp h0 (hop hg) hQ
theorem Owes.grownL {l : List ((Nat → Value) → World → Prop)} {m : Nat} {dead : List (List Nat)} {i : Nat} {o : Oper} {s : Nat → Value} {w w' : World} {v : Value} (hg : AllGrow l) (hb : Below w.heap.size w w') (h : FL l i (upd s o.dst v) w') : Owes (FL l) m dead i o s w v w' :=
  ⟨h, fun k _ _ _ hF => hg.get k s w w' hb hF⟩
/-- The slots written out again. -/
theorem act_lit {a : Act} (L : List Value) (hN : a.tmps.size = L.length) (hD : a.defers = []) (h : ∀ t, t < L.length → sl a t = L.getD t undef) : a = { tmps := L.toArray, defers := [] } := by
  obtain ⟨tm, df⟩ := a
  simp only at hN hD
  subst hD
  congr 1
  apply Array.ext'
  apply List.ext_getElem
  · simpa using hN
  · intro i h1 h2
    have h3 : i < L.length := by simpa using h2
    have h4 := h i h3
    have h5 : i < tm.size := by omega
    simp [sl, h5, List.getD_eq_getElem?_getD, h3] at h4
    simpa using h4
def setAll : List Value → List (Nat × Value) → List Value
  | L, [] => L
  | L, (t, v) :: r => setAll (L.set t v) r
theorem setAll_length : ∀ (r : List (Nat × Value)) (L : List Value), (setAll L r).length = L.length
  | [], _ => rfl
  | (t, v) :: r, L => by rw [setAll, setAll_length r]; simp
theorem setAll_get : ∀ (r : List (Nat × Value)) (L : List Value) (s : Nat → Value), (∀ t, t < L.length → (∀ v, (t, v) ∉ r) → s t = L.getD t undef) → (∀ p ∈ r, s p.1 = p.2) → ∀ t, t < L.length → s t = (setAll L r).getD t undef
  | [], L, s, h, _, t, ht => h t ht (by simp)
  | (u, v) :: r, L, s, h, hr, t, ht => by
    rw [setAll]
    refine setAll_get r _ s ?_ (fun p hp => hr p (by simp [hp])) t (by simpa using ht)
    intro x hx hno
    rw [List.length_set] at hx
    by_cases hxu : x = u
    · subst hxu
      have := hr (x, v) (by simp)
      simp only at this
      rw [this]
      simp [List.getD_eq_getElem?_getD, hx]
    · rw [h x hx (fun v' hm => by
        rcases List.mem_cons.1 hm with e | e
        · injection e with e1 _; exact hxu e1
        · exact hno v' e)]
      simp [List.getD_eq_getElem?_getD, List.getElem?_set_ne (Ne.symm hxu)]
def SlotsAre (s : Nat → Value) : List (Nat × Value) → Prop
  | [] => True
  | p :: r => s p.1 = p.2 ∧ SlotsAre s r
theorem SlotsAre.all {s : Nat → Value} : ∀ {r : List (Nat × Value)}, SlotsAre s r → ∀ p ∈ r, s p.1 = p.2
  | [], _, p, h => by cases h
  | q :: r, h, p, hp => by
    rcases List.mem_cons.1 hp with e | e
    · subst e; exact h.1
    · exact SlotsAre.all h.2 p e
/-- Behind a region: the act written out, its slots as the region left them (ds: the slots it writes). -/
theorem act_back {a : Act} {L : List Value} {ds : List Nat} (r : List (Nat × Value)) (hN : a.tmps.size = L.length) (hD : a.defers = []) (hsame : ∀ t, t ∉ ds → sl a t = sl { tmps := L.toArray, defers := [] } t)
    (hds : (ds.all fun d => r.any fun p => p.1 == d) = true) (hr : SlotsAre (sl a) r) : a = { tmps := (setAll L r).toArray, defers := [] } := by
  refine act_lit _ (by rw [setAll_length]; exact hN) hD ?_
  intro t ht
  rw [setAll_length] at ht
  refine setAll_get r L (sl a) ?_ hr.all t ht
  intro x hx hno
  have hxd : x ∉ ds := by
    intro hd
    have h1 := List.all_eq_true.1 hds x hd
    obtain ⟨p, hp, he⟩ := List.any_eq_true.1 h1
    have : p.1 = x := by simpa using he
    subst this
    exact hno p.2 hp
  rw [hsame x hxd]
  simp [sl, List.getD_eq_getElem?_getD]
theorem slots_map {s : Nat → Value} : ∀ (ds : List Nat), SlotsAre s (ds.map fun d => (d, s d))
  | [] => trivial
  | _ :: r => ⟨rfl, slots_map r⟩
/-- The same, the region's slots under one name. -/
theorem act_name {a : Act} {L : List Value} {ds : List Nat} (hN : a.tmps.size = L.length) (hD : a.defers = []) (hsame : ∀ t, t ∉ ds → sl a t = sl { tmps := L.toArray, defers := [] } t) :
    ∃ f : Nat → Value, sl a = f ∧ a = { tmps := (setAll L (ds.map fun d => (d, f d))).toArray, defers := [] } :=
  ⟨sl a, rfl, act_back _ hN hD hsame (List.all_eq_true.2 fun d hd => List.any_eq_true.2 ⟨(d, sl a d), List.mem_map.2 ⟨d, hd, rfl⟩, by simp⟩) (slots_map ds)⟩
end Go.Proofs.Ytideafkiaipnoaa.Deed
