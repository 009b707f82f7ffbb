/- A log in order: sorted by actor, each actor's operations counted; the n-th of an actor. -/
import Derived.Test.YtideafkiaipnoaaCauses
import Derived.Test.YtideafkiaipnoaaRead
namespace Go.Proofs.Ytideafkiaipnoaa.Q
open Go
def Sorted (os : List Op) : Prop := ∀ i : Int, 0 < i → i < os.length → (go_ os (i - 1)).actor ≤ (go_ os i).actor
theorem Sorted.pair {os : List Op} (h : Sorted os) : os.Pairwise fun x y => x.actor ≤ y.actor := by
  have mono : ∀ (d : Nat) (i : Int), 0 ≤ i → i + d < os.length → (go_ os i).actor ≤ (go_ os (i + d)).actor := by
    intro d
    induction d with
    | zero => intro i _ _; simp
    | succ d ih =>
      intro i h0 h1
      have h2 := ih i h0 (by omega)
      have h3 := h (i + (d + 1 : Nat)) (by omega) (by omega)
      rw [show i + ((d + 1 : Nat) : Int) - 1 = i + d by omega] at h3
      omega
  rw [List.pairwise_iff_getElem]
  intro i j hi hj hij
  have h2 := mono (j - i) i (by omega) (by omega)
  rw [show (i : Int) + ((j - i : Nat) : Int) = j by omega] at h2
  simpa [go_, List.getD_eq_getElem?_getD, hi, hj] using h2
theorem split_at {os : List Op} (h : os.Pairwise fun x y => x.actor ≤ y.actor) (a : Int) : os = os.filter (fun o => decide (o.actor < a)) ++ (os.filter (fun o => o.actor == a) ++ os.filter (fun o => decide (a < o.actor))) := by
  induction os with
  | nil => rfl
  | cons x r ih =>
    rw [List.pairwise_cons] at h
    have ih' := ih h.2
    rcases Int.lt_trichotomy x.actor a with e | e | e
    · simp only [List.filter_cons, e, decide_true, if_true, List.cons_append]
      rw [if_neg (by simp; omega), if_neg (by simp; omega)]
      congr 1
    · have h1 : r.filter (fun o => decide (o.actor < a)) = [] := by
        rw [List.filter_eq_nil_iff]
        intro o ho
        have := h.1 o ho
        simp; omega
      rw [h1] at ih'
      simp only [List.filter_cons, h1]
      rw [if_neg (by simp; omega), if_pos (by simpa using e), if_neg (by simp; omega)]
      simpa using ih'
    · have h1 : r.filter (fun o => decide (o.actor < a)) = [] := by
        rw [List.filter_eq_nil_iff]
        intro o ho
        have := h.1 o ho
        simp; omega
      have h2 : r.filter (fun o => o.actor == a) = [] := by
        rw [List.filter_eq_nil_iff]
        intro o ho
        have := h.1 o ho
        simp; omega
      rw [h1, h2] at ih'
      simp only [List.filter_cons, h1, h2]
      rw [if_neg (by simp; omega), if_neg (by simp; omega), if_pos (by simpa using e)]
      simpa using ih'
theorem go_nat {os : List Op} {k : Nat} (h : k < os.length) : go_ os (k : Int) = os[k] := by simp [go_, List.getD_eq_getElem?_getD, h]
/-- Where the n-th of actor a stands. -/
theorem find_onth {os : List Op} (h : Sorted os) {a n : Int} (hn : 0 < n) (hv : n ≤ num os a) : 0 ≤ find os a n ∧ find os a n < os.length ∧ go_ os (find os a n) = onth os a n := by
  have hs := split_at h.pair a
  generalize hP : os.filter (fun o => decide (o.actor < a)) = P at hs
  generalize hQ : os.filter (fun o => decide (a < o.actor)) = Q at hs
  have hF : (os.filter fun o => o.actor == a).length = num os a := rfl
  have hFd : onth os a n = (os.filter fun o => o.actor == a).getD (n - 1).toNat default := rfl
  generalize hFF : os.filter (fun o => o.actor == a) = F at hs hF hFd
  have hl : os.length = P.length + (F.length + Q.length) := by conv => lhs; rw [hs]; simp
  have hin : ∀ m : Nat, m < F.length → ∀ hk : P.length + m < os.length, os[P.length + m]'hk = F.getD m default ∧ (F.getD m default).actor = a := by
    intro m hm hk
    have e1 : os[P.length + m]'hk = F[m] := by
      have : os[P.length + m]? = F[m]? := by
        conv => lhs; rw [hs]
        rw [List.getElem?_append_right (by omega), show P.length + m - P.length = m by omega, List.getElem?_append_left hm]
      rw [List.getElem?_eq_getElem hk, List.getElem?_eq_getElem hm] at this
      exact Option.some.inj this
    have e2 : F.getD m default = F[m] := by simp [List.getD_eq_getElem?_getD, hm]
    refine ⟨e1.trans e2.symm, ?_⟩
    rw [e2]
    have hmem : F[m] ∈ os.filter (fun o => o.actor == a) := by rw [hFF]; exact List.getElem_mem hm
    simpa using (List.mem_filter.1 hmem).2
  have h0 : (F.length : Int) = num os a := hF
  have hfirst : (go_ os (P.length : Int)).actor = a := by
    have hk : P.length < os.length := by omega
    rw [go_nat hk]
    have := hin 0 (by omega) (by omega)
    simp only [Nat.add_zero] at this
    rw [this.1]
    exact this.2
  have hbefore : ∀ j : Int, 0 ≤ j → j < P.length → (go_ os j).actor ≠ a := by
    intro j u v
    have hk : j.toNat < os.length := by omega
    have e : go_ os j = os[j.toNat] := by rw [← go_nat hk]; congr 1; omega
    have hp : os[j.toNat] = P[j.toNat]'(by omega) := by
      have : os[j.toNat]? = P[j.toNat]? := by
        conv => lhs; rw [hs]
        rw [List.getElem?_append_left (by omega)]
      rw [List.getElem?_eq_getElem hk, List.getElem?_eq_getElem (by omega)] at this
      exact Option.some.inj this
    have hmem : P[j.toNat]'(by omega) ∈ os.filter (fun o => decide (o.actor < a)) := by rw [hP]; exact List.getElem_mem _
    have := (List.mem_filter.1 hmem).2
    rw [e, hp]
    simp at this
    omega
  have hlast : go_ os ((P.length : Int) + n - 1) = F.getD (n - 1).toNat default ∧ (F.getD (n - 1).toNat default).actor = a := by
    have hk : P.length + (n - 1).toNat < os.length := by omega
    have := hin (n - 1).toNat (by omega) hk
    rw [← go_nat hk] at this
    rw [show ((P.length + (n - 1).toNat : Nat) : Int) = P.length + n - 1 by omega] at this
    exact this
  rw [find_some (by omega) (by omega) hbefore hfirst, if_neg (by
    rintro (u | u | u)
    · omega
    · omega
    · exact u (by rw [hlast.1]; exact hlast.2))]
  refine ⟨by omega, by omega, ?_⟩
  rw [hlast.1, hFd]
theorem num_zero {os : List Op} {a : Int} (h : ∀ o ∈ os, o.actor ≠ a) : num os a = 0 := by
  unfold num
  rw [List.filter_eq_nil_iff.2 (fun o ho => by simpa using h o ho)]
  rfl
theorem take_mem {os : List Op} {n : Nat} {o : Op} (h : o ∈ os.take n) : ∃ j : Int, 0 ≤ j ∧ j < n ∧ j < os.length ∧ go_ os j = o := by
  obtain ⟨k, hk, e⟩ := List.getElem_of_mem h
  rw [List.length_take] at hk
  refine ⟨k, by omega, by omega, by omega, ?_⟩
  rw [go_nat (by omega), ← e, List.getElem_take]
theorem Sorted.before {os : List Op} (h : Sorted os) {i j : Int} (h0 : 0 ≤ i) (h1 : i ≤ j) (h2 : j < os.length) : (go_ os i).actor ≤ (go_ os j).actor := by
  rcases Int.lt_or_eq_of_le h1 with e | e
  · have := List.pairwise_iff_getElem.1 h.pair i.toNat j.toNat (by omega) (by omega) (by omega)
    rw [← go_nat, ← go_nat] at this
    rwa [Int.toNat_of_nonneg h0, Int.toNat_of_nonneg (by omega)] at this
  · subst e; omega
/-- Each operation's number is one more than its actor had before. -/
def Counted (os : List Op) : Prop := ∀ i : Int, 0 ≤ i → i < os.length → (go_ os i).seq = num (os.take i.toNat) (go_ os i).actor + 1
theorem num_first {os : List Op} (h : Sorted os) {i : Int} (h0 : 0 ≤ i) (h1 : i < os.length) (hf : i = 0 ∨ (go_ os (i - 1)).actor ≠ (go_ os i).actor) : num (os.take i.toNat) (go_ os i).actor = 0 := by
  refine num_zero fun o ho => ?_
  obtain ⟨j, u, v, w, e⟩ := take_mem ho
  subst e
  rcases hf with hf | hf
  · omega
  · have h2 := h.before u (show j ≤ i - 1 by omega) (by omega)
    have h3 := h i (by omega) h1
    omega
theorem num_next {os : List Op} {i : Int} (h0 : 0 < i) (h1 : i < os.length) (he : (go_ os (i - 1)).actor = (go_ os i).actor) : num (os.take i.toNat) (go_ os i).actor = num (os.take (i - 1).toNat) (go_ os (i - 1)).actor + 1 := by
  have := take_snoc (os := os) (i := i - 1) (by omega) (by omega)
  rw [show i - 1 + 1 = i by omega] at this
  rw [this, num_snoc, if_pos he, he]
end Go.Proofs.Ytideafkiaipnoaa.Q
