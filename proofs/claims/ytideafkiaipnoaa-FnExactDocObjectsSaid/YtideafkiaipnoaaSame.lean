/- Both readings of a log say the same; so do both lists of its objects. -/
import Derived.Test.YtideafkiaipnoaaIDoc
namespace Go.Proofs.Ytideafkiaipnoaa.Q
open Go
theorem iBad_iff {os : List Op} {i : Int} : iBad os i = false ↔ iOp (go_ os i) = true ∧ (0 < i → (go_ os (i - 1)).actor ≤ (go_ os i).actor) ∧ (go_ os i).seq = num (os.take i.toNat) (go_ os i).actor + 1 := by
  unfold iBad
  simp [and_assoc]
theorem sBad_of {os : List Op} {i : Int} (hf : i = 0 ∨ (go_ os (i - 1)).actor ≠ (go_ os i).actor) (hq : (go_ os i).seq = 1) (hle : 0 < i → (go_ os (i - 1)).actor ≤ (go_ os i).actor) : sBad os i = false := by
  have h1 : ((i == 0) || ((go_ os i).actor != (go_ os (i - 1)).actor)) = true := by
    rcases hf with e | e
    · simp [e]
    · simp; exact .inr (fun h => e h.symm)
  unfold sBad
  rw [h1, hq]
  simpa using hle
theorem sBad_next {os : List Op} {i : Int} (h0 : i ≠ 0) (he : (go_ os (i - 1)).actor = (go_ os i).actor) (hq : (go_ os i).seq = (go_ os (i - 1)).seq + 1) : sBad os i = false := by
  unfold sBad
  rw [hq, he]
  simp [h0]
theorem sBad_first' {os : List Op} {i : Int} (hf : i = 0 ∨ (go_ os (i - 1)).actor ≠ (go_ os i).actor) (h : sBad os i = false) : (go_ os i).seq = 1 := by
  have h1 : ((i == 0) || ((go_ os i).actor != (go_ os (i - 1)).actor)) = true := by
    rcases hf with e | e
    · simp [e]
    · simp; exact .inr (fun h => e h.symm)
  unfold sBad at h
  rw [h1] at h
  simp at h
  exact h.1
theorem sBad_next' {os : List Op} {i : Int} (h0 : i ≠ 0) (he : (go_ os (i - 1)).actor = (go_ os i).actor) (h : sBad os i = false) : (go_ os i).seq = (go_ os (i - 1)).seq + 1 := by
  unfold sBad at h
  rw [he] at h
  simpa [h0] using h
theorem steps_of {os : List Op} (h : ∀ i : Int, 0 ≤ i → i < os.length → iBad os i = false) : Steps os := by
  have hs : Sorted os := fun i u v => (iBad_iff.1 (h i (by omega) v)).2.1 u
  intro i u v
  obtain ⟨h1, h2, h3⟩ := iBad_iff.1 (h i u v)
  refine ⟨h1, ?_⟩
  by_cases hf : i = 0 ∨ (go_ os (i - 1)).actor ≠ (go_ os i).actor
  · have hn := num_first hs u v hf
    exact sBad_of hf (by omega) h2
  · have e1 : i ≠ 0 := fun e => hf (.inl e)
    have e2 : (go_ os (i - 1)).actor = (go_ os i).actor := Decidable.byContradiction fun e => hf (.inr e)
    have hn := num_next (by omega) v e2
    have h5 := (iBad_iff.1 (h (i - 1) (by omega) (by omega))).2.2
    exact sBad_next e1 e2 (by omega)
theorem Steps.counted {os : List Op} (h : Steps os) : Counted os := by
  have hs := h.sorted
  have key : ∀ k : Nat, ∀ i : Int, i.toNat = k → 0 ≤ i → i < os.length → (go_ os i).seq = num (os.take i.toNat) (go_ os i).actor + 1 := by
    intro k
    induction k with
    | zero =>
      intro i e u v
      have hf : i = 0 ∨ (go_ os (i - 1)).actor ≠ (go_ os i).actor := .inl (by omega)
      have h1 := sBad_first' hf (h i u v).2
      have h2 := num_first hs u v hf
      omega
    | succ k ih =>
      intro i e u v
      by_cases hf : i = 0 ∨ (go_ os (i - 1)).actor ≠ (go_ os i).actor
      · have h1 := sBad_first' hf (h i u v).2
        have h2 := num_first hs u v hf
        omega
      · have e1 : i ≠ 0 := fun e => hf (.inl e)
        have e2 : (go_ os (i - 1)).actor = (go_ os i).actor := Decidable.byContradiction fun e => hf (.inr e)
        have hn := num_next (by omega) v e2
        have h1 := sBad_next' e1 e2 (h i u v).2
        have h2 := ih (i - 1) (by omega) (by omega) (by omega)
        omega
  exact fun i u v => key _ i rfl u v
theorem steps_iff {os : List Op} : Steps os ↔ ∀ i : Int, 0 ≤ i → i < os.length → iBad os i = false :=
  ⟨fun h i u v => iBad_iff.2 ⟨(h i u v).1, fun hi => h.sorted i hi v, h.counted i u v⟩, steps_of⟩
/-! ### Kinds -/
def phi (x : Int) : Int := if x = 4 then 3 else x
theorem sthing_phi {o : Op} (h : o.kind = 1 ∨ o.kind = 2 ∨ o.kind = 3 ∨ o.kind = 4) : sthing o.kind = phi (thing o) ∧ (thing o = 1 ∨ thing o = 2 ∨ thing o = 4) := by
  rcases h with e | e | e | e <;> (simp only [sthing, thing, phi, e]; decide)
theorem tf_phi (os : List Op) (h : ∀ o ∈ os, (o.kind = 1 ∨ o.kind = 2 ∨ o.kind = 3 ∨ o.kind = 4) ∧ 0 ≤ o.obj ∧ o.obj < 101) {j : Int} (h0 : 0 ≤ j) : gi (tf (fun o => sthing o.kind) os) j = phi (gi (tf thing os) j) ∧ (gi (tf thing os) j = 0 ∨ gi (tf thing os) j = 1 ∨ gi (tf thing os) j = 2 ∨ gi (tf thing os) j = 4) := by
  induction os using rev_ind with
  | h0 =>
    have e : gi (tf thing []) j = 0 := gi_rep 101 j
    have e2 : gi (tf (fun o => sthing o.kind) []) j = 0 := gi_rep 101 j
    rw [e, e2]
    exact ⟨rfl, .inl rfl⟩
  | h1 l x ih =>
    have ih' := ih (fun o ho => h o (by simp [ho]))
    obtain ⟨hk, hj0, hj1⟩ := h x (by simp)
    obtain ⟨p1, p2⟩ := sthing_phi hk
    rw [tf_snoc, tf_snoc, gi_si hj0 (by rw [tf_length]; omega) h0, gi_si hj0 (by rw [tf_length]; omega) h0]
    by_cases e : j = x.obj
    · rw [if_pos e, if_pos e]
      exact ⟨p1, .inr p2⟩
    · rw [if_neg e, if_neg e]
      exact ih'
theorem skind_iff {os : List Op} (h : ∀ i : Int, 0 ≤ i → i < os.length → iOp (go_ os i) = true) {i : Int} (h0 : 0 ≤ i) (h1 : i < os.length) : SKind os i ↔ iKindBad os i = false := by
  have hf := iOp_fine (h i h0 h1)
  have hm : ∀ o ∈ os.take i.toNat, (o.kind = 1 ∨ o.kind = 2 ∨ o.kind = 3 ∨ o.kind = 4) ∧ 0 ≤ o.obj ∧ o.obj < 101 := by
    intro o ho
    obtain ⟨j, u, v, w, e⟩ := take_mem ho
    have := iOp_fine (h j u w)
    rw [e] at this
    exact ⟨this.kinds, by have := this.j0; omega, by have := this.j1; omega⟩
  obtain ⟨p1, p2⟩ := tf_phi (os.take i.toNat) hm (j := (go_ os i).obj) (by have := hf.j0; omega)
  obtain ⟨q1, q2⟩ := sthing_phi hf.kinds
  unfold SKind iKindBad
  rw [p1, q1]
  generalize gi (tf thing (os.take i.toNat)) (go_ os i).obj = x at *
  generalize thing (go_ os i) = y at *
  rcases p2 with e | e | e | e <;> rcases q2 with f | f | f <;> subst e <;> subst f <;> decide
/-! ### Causes -/
theorem causes_dep {os : List Op} (h : Steps os) {k : Int} : Causes os (cnt os) (go_ os k) ↔ ∀ b : Int, 0 ≤ b → b < 16 → depBad os k b = false := by
  have ha : Actors os := Steps.actors fun i u v => (h i u v).1
  have one : ∀ b : Int, 0 ≤ b → b < 16 → ((gi (go_ os k).deps b ≤ gi (cnt os) b ∧ (0 < gi (go_ os k).deps b → lessT (go_ os (find os b (gi (go_ os k).deps b))).time (go_ os (find os b (gi (go_ os k).deps b))).actor (go_ os k).time (go_ os k).actor = true)) ↔ depBad os k b = false) := by
    intro b u v
    rw [gi_cnt ha u v]
    unfold depBad
    simp only [less_lessT, Bool.or_eq_false_iff, Bool.and_eq_false_imp, decide_eq_false_iff_not, decide_eq_true_eq, Bool.not_eq_false', Int.not_lt]
    constructor
    · rintro ⟨h1, h2⟩
      refine ⟨h1, fun h3 => ?_⟩
      rw [← (find_onth h.sorted h3 h1).2.2]
      exact h2 h3
    · rintro ⟨h1, h2⟩
      refine ⟨h1, fun h3 => ?_⟩
      rw [(find_onth h.sorted h3 h1).2.2]
      exact h2 h3
  exact ⟨fun hc b u v => (one b u v).1 (hc b u v), fun hd b u v => (one b u v).2 (hd b u v)⟩
theorem slog_ilog {os : List Op} : SLog os ↔ ILog os := by
  constructor
  · rintro ⟨h1, h2, h3⟩
    have hi := steps_iff.1 h2
    refine ⟨h1, fun i u v => ⟨hi i u v, (skind_iff (fun i u v => (h2 i u v).1) u v).1 (h3 i u v).2⟩, fun k b u v p q => (causes_dep h2).1 (causes_iff.1 (h3 k u v).1) b p q⟩
  · rintro ⟨h1, h2, h3⟩
    have hs := steps_of fun i u v => (h2 i u v).1
    exact ⟨h1, hs, fun i u v => ⟨causes_iff.2 ((causes_dep hs).2 fun b p q => h3 i b u v p q), (skind_iff (fun i u v => (hs i u v).1) u v).2 (h2 i u v).2⟩⟩
theorem log_same (os : List Op) : sLogOK os = iLogOK os := by
  rw [Bool.eq_iff_iff, sLogOK_iff, iLogOK_iff]
  exact slog_ilog
/-! ### Objects -/
theorem tf_ne (f : Op → Int) (os : List Op) (h : ∀ o ∈ os, f o ≠ 0 ∧ 0 ≤ o.obj ∧ o.obj < 101) {j : Int} (h0 : 0 ≤ j) : gi (tf f os) j ≠ 0 ↔ ∃ o ∈ os, o.obj = j := by
  induction os using rev_ind with
  | h0 =>
    have e : gi (tf f []) j = 0 := gi_rep 101 j
    simp [e]
  | h1 l x ih =>
    have ih' := ih (fun o ho => h o (by simp [ho]))
    obtain ⟨hk, hj0, hj1⟩ := h x (by simp)
    rw [tf_snoc, gi_si hj0 (by rw [tf_length]; omega) h0]
    by_cases e : j = x.obj
    · rw [if_pos e]
      exact ⟨fun _ => ⟨x, by simp, e.symm⟩, fun _ => hk⟩
    · rw [if_neg e, ih']
      constructor
      · rintro ⟨o, ho, he⟩
        exact ⟨o, by simp [ho], he⟩
      · rintro ⟨o, ho, he⟩
        rcases List.mem_append.1 ho with h' | h'
        · exact ⟨o, h', he⟩
        · simp at h'
          subst h'
          exact absurd he.symm e
theorem thingAt_ne (os : List Op) (h : ∀ o ∈ os, sthing o.kind ≠ 0) (j : Int) : thingAt os j ≠ 0 ↔ ∃ o ∈ os, o.obj = j := by
  unfold thingAt
  cases e : os.find? (fun o => o.obj == j) with
  | none =>
    rw [List.find?_eq_none] at e
    simp only [ne_eq, not_true_eq_false, false_iff, not_exists, not_and]
    intro o ho he
    exact e o ho (by simpa using he)
  | some o =>
    have h1 := List.mem_of_find?_eq_some e
    have h2 := List.find?_some e
    exact ⟨fun _ => ⟨o, h1, by simpa using h2⟩, fun _ => h o h1⟩
theorem objs_same (os : List Op) : sObjs os = iObjs os := by
  unfold sObjs iObjs
  rw [log_same]
  by_cases hl : iLogOK os = true
  · rw [if_pos hl, if_pos hl]
    have hi := (iLogOK_iff.1 hl).2.1
    have hm : ∀ o ∈ os, OpFine o := by
      intro o ho
      obtain ⟨k, hk, e⟩ := List.getElem_of_mem ho
      have := iOp_fine (iBad_iff.1 (hi k (by omega) (by omega)).1).1
      rwa [go_nat hk, e] at this
    refine upto_eq 101 fun j u v => ?_
    unfold sPick iPick
    have h1 := tf_ne thing os (fun o ho => ⟨by have := (sthing_phi (hm o ho).kinds).2; omega, by have := (hm o ho).j0; omega, by have := (hm o ho).j1; omega⟩) u
    have h2 := thingAt_ne os (fun o ho => by have := sthing_phi (hm o ho).kinds; unfold phi at this; omega) j
    rw [Bool.eq_iff_iff]
    simp only [Bool.and_eq_true, decide_eq_true_eq, bne_iff_ne]
    rw [h1, h2]
    constructor
    · exact fun h => h.2
    · rintro ⟨o, ho, he⟩
      exact ⟨by have := (hm o ho).j0; omega, o, ho, he⟩
  · rw [if_neg hl, if_neg hl]
end Go.Proofs.Ytideafkiaipnoaa.Q
