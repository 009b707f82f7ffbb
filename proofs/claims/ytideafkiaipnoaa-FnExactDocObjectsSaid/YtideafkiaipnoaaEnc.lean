/- Rows of elements of one kind: read; owned and written; made. -/
import Derived.Test.YtideafkiaipnoaaCopy
import Derived.Test.YtideafkiaipnoaaMarkI
namespace Go.Proofs.Ytideafkiaipnoaa.Q
open Go Go.RowKit Go.Proofs.YtideafkiaipnoaaW.PrintWords Go.Proofs.Ytideafkiaipnoaa.Deed
/-- How an element lies in memory: its cells; a row of integers that it may hold. -/
structure Enc (α : Type) where
  n : Nat
  T : TypeId
  enc : α → List Value
  inn : α → Option (Option Addr × List Int)
  len : ∀ x, (enc x).length = n
def gd {α : Type} [Inhabited α] (xs : List α) (i : Int) : α := xs.getD i.toNat default
theorem gd_of {α : Type} [Inhabited α] {xs : List α} {i : Int} (h0 : 0 ≤ i) (h1 : i < xs.length) : xs[i.toNat]? = some (gd xs i) := by
  have : i.toNat < xs.length := by omega
  simp [gd, List.getD_eq_getElem?_getD, this]
section
variable {α : Type} (E : Enc α)
/-- The elements xs lie at A. -/
def RV (w : World) (A : Option Addr) (xs : List α) : Prop :=
  ∀ i x, xs[i]? = some x → A = some (adr A) ∧ (∀ (j : Nat) (u : Value), (E.enc x)[j]? = some u → w.cell? ((adr A).add (i * E.n + j)) = some u) ∧ ∀ B ys, E.inn x = some (B, ys) → RI w B ys
/-- Integers of one's own: in a block between lo and hi. -/
def OwnI (w : World) (A : Option Addr) (xs : List Int) (lo hi : Nat) : Prop :=
  xs = [] ∨ ∃ (g : Nat) (L : List Value), A = some ⟨g, 0, none⟩ ∧ lo ≤ g ∧ g < hi ∧ w.heap[g]? = some (.cells L.toArray 3 (0, 0)) ∧ ∀ (i : Nat) (x : Int), xs[i]? = some x → L[i]? = some (.int .i64 x)
/-- Elements of one's own. -/
structure OwnAt (w : World) (A : Option Addr) (xs : List α) (lo hi : Nat) : Prop where
  out : xs = [] ∨ ∃ (g : Nat) (L : List Value), A = some ⟨g, 0, none⟩ ∧ lo ≤ g ∧ g < hi ∧ w.heap[g]? = some (.cells L.toArray E.T (0, 0)) ∧ ∀ (i : Nat) (x : α), xs[i]? = some x → ∀ (j : Nat) (u : Value), (E.enc x)[j]? = some u → L[i * E.n + j]? = some u
  inn : ∀ (i : Nat) (x : α) (B : Option Addr) (ys : List Int), xs[i]? = some x → E.inn x = some (B, ys) → OwnI w B ys lo hi
  far : ∀ (i : Nat) (x : α) (g : Nat) (ys : List Int), xs[i]? = some x → E.inn x = some (some ⟨g, 0, none⟩, ys) → ys ≠ [] → A ≠ some ⟨g, 0, none⟩
  dis : ∀ (i i' : Nat) (x x' : α) (g : Nat) (ys ys' : List Int), xs[i]? = some x → xs[i']? = some x' → E.inn x = some (some ⟨g, 0, none⟩, ys) → E.inn x' = some (some ⟨g, 0, none⟩, ys') → ys ≠ [] → ys' ≠ [] → i = i'
end
section
variable {w W : World} {A : Option Addr} {xs : List Int} {lo hi : Nat}
theorem OwnI.RI (h : OwnI w A xs lo hi) : RI w A xs := by
  intro i x hx
  rcases h with h | ⟨g, L, h1, h2, h3, h4, h5⟩
  · rw [h] at hx; simp at hx
  · subst h1
    refine ⟨rfl, ?_⟩
    show w.cell? ((⟨g, 0, none⟩ : Addr).add i) = _
    rw [add_mk, Nat.zero_add, blk_cell h4]
    simpa using h5 i x hx
theorem OwnI.kx {S : Nat → Prop} (h : OwnI w A xs lo hi) (k : Kx S w W) (hS : ∀ i, lo ≤ i → i < hi → ¬ S i) : OwnI W A xs lo hi := by
  rcases h with h | ⟨g, L, h1, h2, h3, h4, h5⟩
  · exact .inl h
  · exact .inr ⟨g, L, h1, h2, h3, blk_kx h4 k (hS g h2 h3), h5⟩
theorem OwnI.below (h : OwnI w A xs lo hi) (hb : Below w.heap.size w W) : OwnI W A xs lo hi := h.kx (kx_of_below hb (fun _ => False)) (fun _ _ _ h => h)
theorem OwnI.wide {lo' hi' : Nat} (h : OwnI w A xs lo hi) (h1 : lo' ≤ lo) (h2 : hi ≤ hi') : OwnI w A xs lo' hi' := by
  rcases h with h | ⟨g, L, u1, u2, u3, u4, u5⟩
  · exact .inl h
  · exact .inr ⟨g, L, u1, by omega, by omega, u4, u5⟩
theorem OwnI.of_IB {g : Nat} (h : IB w g xs 3) (h1 : lo ≤ g) (h2 : g < hi) : OwnI w (some ⟨g, 0, none⟩) xs lo hi := .inr ⟨g, _, rfl, h1, h2, h, fun i x hx => by simp [hx]⟩
/-- It may be written. -/
theorem OwnI.WI (h : OwnI w A xs lo hi) (hne : xs ≠ []) : ∃ g, A = some ⟨g, 0, none⟩ ∧ lo ≤ g ∧ g < hi ∧ WI w g A xs.length := by
  rcases h with h | ⟨g, L, h1, h2, h3, h4, h5⟩
  · exact absurd h hne
  · refine ⟨g, h1, h2, h3, .inr ⟨h1, L, h4, ?_⟩⟩
    rcases Nat.lt_or_ge L.length xs.length with hl | hl
    · exfalso
      have hx : xs[L.length]? = some xs[L.length] := by simp [hl]
      have := h5 _ _ hx
      simp at this
    · exact hl
theorem MI.own {g : Nat} {k : Int} {n : Nat} (h : MI w g A n k n) (h1 : lo ≤ g) (h2 : g < hi) : OwnI w A (mk k n) lo hi := by
  rcases h with h | ⟨u1, L, u2, u3, u4⟩
  · subst h; exact .inl rfl
  · refine .inr ⟨g, L, u1, h1, h2, u2, fun i x hx => ?_⟩
    have hi : i < n := by have := (List.getElem?_eq_some_iff.1 hx).1; rwa [mk_length] at this
    have hg := gi_mk (k := k) (n := n) (i := i) (by omega) (by omega)
    have hx2 : x = k + i := by
      rw [← hg]
      simp [gi, List.getD_eq_getElem?_getD, hx]
    have := u4 i (by omega) (by omega)
    simpa [hx2] using this
end
section
variable {α : Type} {E : Enc α} {w W : World} {A : Option Addr} {xs : List α} {lo hi : Nat}
theorem RV.below (h : RV E w A xs) (hb : Below w.heap.size w W) : RV E W A xs := fun i x hx => ⟨(h i x hx).1, fun j u hu => cell_below ((h i x hx).2.1 j u hu) hb, fun B ys hy => ((h i x hx).2.2 B ys hy).below hb⟩
theorem RV.nil (w : World) (A : Option Addr) : RV E w A [] := fun i x h => by simp at h
section
variable [Inhabited α]
theorem RV.ad (h : RV E w A xs) (i : Int) (h0 : 0 ≤ i) (h1 : i < xs.length) : A = some (adr A) := (h _ _ (gd_of h0 h1)).1
theorem RV.cell (h : RV E w A xs) (hb : Below w.heap.size w W) {i : Int} (h0 : 0 ≤ i) (h1 : i < xs.length) {j : Nat} {u : Value} (hu : (E.enc (gd xs i))[j]? = some u) : W.cell? (((adr A).add (i.toNat * E.n)).add j) = some u := by
  rw [add_add]
  exact cell_below ((h _ _ (gd_of h0 h1)).2.1 j u hu) hb
theorem RV.cells (h : RV E w A xs) (hb : Below w.heap.size w W) {i : Int} (h0 : 0 ≤ i) (h1 : i < xs.length) : ∀ (j : Nat) (u : Value), (E.enc (gd xs i))[j]? = some u → W.cell? (((adr A).add (i.toNat * E.n)).add j) = some u := fun _ _ hu => h.cell hb h0 h1 hu
theorem RV.sub (h : RV E w A xs) (hb : Below w.heap.size w W) {i : Int} (h0 : 0 ≤ i) (h1 : i < xs.length) (off : Nat) {cs : List Value} (hc : ((E.enc (gd xs i)).drop off).take cs.length = cs) : ∀ (j : Nat) (u : Value), cs[j]? = some u → W.cell? ((((adr A).add (i.toNat * E.n)).add off).add j) = some u := by
  intro j u hu
  have hj := (List.getElem?_eq_some_iff.1 hu).1
  rw [← hc, List.getElem?_take_of_lt hj, List.getElem?_drop] at hu
  rw [add_add]
  exact h.cell hb h0 h1 hu
theorem RV.cell0 (h : RV E w A xs) (hb : Below w.heap.size w W) {i : Int} (h0 : 0 ≤ i) (h1 : i < xs.length) {u : Value} (hu : (E.enc (gd xs i))[0]? = some u) : W.cell? ((adr A).add (i.toNat * E.n)) = some u := by
  have := h.cell hb h0 h1 hu
  rwa [add_add, Nat.add_zero] at this
theorem RV.inn (h : RV E w A xs) {i : Int} (h0 : 0 ≤ i) (h1 : i < xs.length) {B : Option Addr} {ys : List Int} (hi : E.inn (gd xs i) = some (B, ys)) : RI w B ys := (h _ _ (gd_of h0 h1)).2.2 B ys hi
end
theorem OwnAt.RV (h : OwnAt E w A xs lo hi) : RV E w A xs := by
  intro i x hx
  rcases h.out with h1 | ⟨g, L, h1, h2, h3, h4, h5⟩
  · rw [h1] at hx; simp at hx
  · refine ⟨by rw [h1]; rfl, fun j u hu => ?_, fun B ys hy => (h.inn i x B ys hx hy).RI⟩
    rw [h1]
    show w.cell? ((⟨g, 0, none⟩ : Addr).add _) = _
    rw [add_mk, Nat.zero_add, blk_cell h4]
    simpa using h5 i x hx j u hu
theorem OwnAt.kx {S : Nat → Prop} (h : OwnAt E w A xs lo hi) (k : Kx S w W) (hS : ∀ i, lo ≤ i → i < hi → ¬ S i) : OwnAt E W A xs lo hi := by
  refine ⟨?_, fun i x B ys hx hy => (h.inn i x B ys hx hy).kx k hS, h.far, h.dis⟩
  rcases h.out with h1 | ⟨g, L, h1, h2, h3, h4, h5⟩
  · exact .inl h1
  · exact .inr ⟨g, L, h1, h2, h3, blk_kx h4 k (hS g h2 h3), h5⟩
theorem OwnAt.below (h : OwnAt E w A xs lo hi) (hb : Below w.heap.size w W) : OwnAt E W A xs lo hi := h.kx (kx_of_below hb (fun _ => False)) (fun _ _ _ h => h)
theorem OwnAt.wide {lo' hi' : Nat} (h : OwnAt E w A xs lo hi) (h1 : lo' ≤ lo) (h2 : hi ≤ hi') : OwnAt E w A xs lo' hi' := by
  refine ⟨?_, fun i x B ys hx hy => (h.inn i x B ys hx hy).wide h1 h2, h.far, h.dis⟩
  rcases h.out with h3 | ⟨g, L, u1, u2, u3, u4, u5⟩
  · exact .inl h3
  · exact .inr ⟨g, L, u1, by omega, by omega, u4, u5⟩
theorem OwnAt.ad (h : OwnAt E w A xs lo hi) {i : Int} (h0 : 0 ≤ i) (h1 : i < xs.length) : A = some (adr A) := by
  have : i.toNat < xs.length := by omega
  exact (h.RV _ xs[i.toNat] (List.getElem?_eq_getElem this)).1
/-- The region's blocks. -/
abbrev Mine (lo hi : Nat) : Nat → Prop := fun k => lo ≤ k ∧ k < hi
theorem enc_lt {x : α} {j : Nat} {u : Value} (h : (E.enc x)[j]? = some u) : j < E.n := by
  have := (List.getElem?_eq_some_iff.1 h).1
  rwa [E.len] at this
theorem idx_ne {i i' j j' n : Nat} (h : i ≠ i') (hj : j < n) (hj' : j' < n) : i * n + j ≠ i' * n + j' := by
  intro e
  have h1 : (i * n + j) / n = i := by rw [Nat.mul_comm, Nat.mul_add_div (by omega), Nat.div_eq_of_lt hj]; rfl
  have h2 : (i' * n + j') / n = i' := by rw [Nat.mul_comm, Nat.mul_add_div (by omega), Nat.div_eq_of_lt hj']; rfl
  rw [e] at h1
  exact h (h1.symm.trans h2)
/-- A cell of an element written. -/
theorem OwnAt.set (h : OwnAt E w A xs lo hi) {i j : Nat} {x0 x1 : α} {u : Value} (hx : xs[i]? = some x0) (he : E.enc x1 = (E.enc x0).set j u) (hi1 : E.inn x1 = E.inn x0) (hj : j < E.n) :
    (∃ v, w.cell? ((adr A).add (i * E.n + j)) = some v) ∧ w.frozen? ((adr A).add (i * E.n + j)) = false ∧ OwnAt E (w.setCell ((adr A).add (i * E.n + j)) u) A (xs.set i x1) lo hi ∧ Kx (Mine lo hi) w (w.setCell ((adr A).add (i * E.n + j)) u) := by
  have hil : i < xs.length := (List.getElem?_eq_some_iff.1 hx).1
  rcases h.out with h1 | ⟨g, L, h1, h2, h3, h4, h5⟩
  · rw [h1] at hx; simp at hx
  have ea : (adr A).add (i * E.n + j) = ⟨g, i * E.n + j, none⟩ := by rw [h1]; show (⟨g, 0, none⟩ : Addr).add _ = _; rw [add_mk, Nat.zero_add]
  have hu : (E.enc x0)[j]? = some ((E.enc x0)[j]'(by rw [E.len]; exact hj)) := by simp
  have hL := h5 i x0 hx j _ hu
  rw [ea]
  refine ⟨⟨_, (by rw [blk_cell h4]; simpa using hL)⟩, blk_frozen h4 _, ⟨.inr ⟨g, _, h1, h2, h3, blk_setL h4 _ _, ?_⟩, ?_, ?_, ?_⟩, kx_set _ ⟨h2, h3⟩ _ _⟩
  · intro i' x' hx' j' u' hu'
    by_cases e : i' = i
    · subst e
      rw [List.getElem?_set_self hil] at hx'
      cases hx'
      rw [he] at hu'
      by_cases ej : j' = j
      · subst ej
        rw [List.getElem?_set_self (by rw [E.len]; exact hj)] at hu'
        cases hu'
        rw [List.getElem?_set_self ((List.getElem?_eq_some_iff.1 hL).1)]
      · rw [List.getElem?_set_ne (Ne.symm ej)] at hu'
        rw [List.getElem?_set_ne (by omega)]
        exact h5 _ _ hx _ _ hu'
    · rw [List.getElem?_set_ne (Ne.symm e)] at hx'
      rw [List.getElem?_set_ne (idx_ne (Ne.symm e) hj (enc_lt hu'))]
      exact h5 _ _ hx' _ _ hu'
  · intro i' x' B ys hx' hy
    have hown : OwnI w B ys lo hi := by
      by_cases e : i' = i
      · subst e
        rw [List.getElem?_set_self hil] at hx'
        cases hx'
        exact h.inn _ _ _ _ hx (hi1 ▸ hy)
      · rw [List.getElem?_set_ne (Ne.symm e)] at hx'
        exact h.inn _ _ _ _ hx' hy
    rcases hown with hown | ⟨g', L', u1, u2, u3, u4, u5⟩
    · exact .inl hown
    · by_cases hne : ys = []
      · exact .inl hne
      have hg : g' ≠ g := by
        rintro rfl
        by_cases e : i' = i
        · subst e
          rw [List.getElem?_set_self hil] at hx'
          cases hx'
          exact h.far _ _ g' ys hx (by rw [← hi1, hy, u1]) hne h1
        · rw [List.getElem?_set_ne (Ne.symm e)] at hx'
          exact h.far _ _ g' ys hx' (by rw [hy, u1]) hne h1
      exact .inr ⟨g', L', u1, u2, u3, (Below.heap_setCell _ _ _ _ hg).trans u4, u5⟩
  · intro i' x' g' ys hx' hy hne
    by_cases e : i' = i
    · subst e
      rw [List.getElem?_set_self hil] at hx'
      cases hx'
      exact h.far _ _ g' ys hx (hi1 ▸ hy) hne
    · rw [List.getElem?_set_ne (Ne.symm e)] at hx'
      exact h.far _ _ g' ys hx' hy hne
  · have key : ∀ (a : Nat) (y : α), (xs.set i x1)[a]? = some y → ∃ y', xs[a]? = some y' ∧ E.inn y = E.inn y' := by
      intro a y hy
      by_cases e : a = i
      · subst e
        rw [List.getElem?_set_self hil] at hy
        cases hy
        exact ⟨x0, hx, hi1⟩
      · rw [List.getElem?_set_ne (Ne.symm e)] at hy
        exact ⟨y, hy, rfl⟩
    intro a b y z g' ys zs hy hz hiy hiz hny hnz
    obtain ⟨y', u1, u2⟩ := key a y hy
    obtain ⟨z', v1, v2⟩ := key b z hz
    exact h.dis a b y' z' g' ys zs u1 v1 (u2 ▸ hiy) (v2 ▸ hiz) hny hnz
/-- The integers of an element marked. -/
theorem OwnAt.mark (h : OwnAt E w A xs lo hi) {i : Nat} {x0 x1 : α} {B : Option Addr} {ys zs : List Int} (hx : xs[i]? = some x0) (hi0 : E.inn x0 = some (B, ys)) (he : E.enc x1 = E.enc x0) (hi1 : E.inn x1 = some (B, zs)) (_ : zs.length = ys.length)
    (hne : ys ≠ []) {g : Nat} (hB : B = some ⟨g, 0, none⟩) (k : Kx (fun k => k = g) w W) (hz : OwnI W B zs lo hi) : OwnAt E W A (xs.set i x1) lo hi := by
  have hil : i < xs.length := (List.getElem?_eq_some_iff.1 hx).1
  subst hB
  refine ⟨?_, ?_, ?_, ?_⟩
  · rcases h.out with h1 | ⟨g', L, h1, h2, h3, h4, h5⟩
    · rw [h1] at hx; simp at hx
    · have hg : g' ≠ g := by
        rintro rfl
        exact h.far _ _ g' ys hx hi0 hne h1
      refine .inr ⟨g', L, h1, h2, h3, blk_kx h4 k hg, fun i' x' hx' j u hu => ?_⟩
      by_cases e : i' = i
      · subst e
        rw [List.getElem?_set_self hil] at hx'
        cases hx'
        exact h5 _ _ hx j u (he ▸ hu)
      · rw [List.getElem?_set_ne (Ne.symm e)] at hx'
        exact h5 _ _ hx' j u hu
  · intro i' x' B' ys' hx' hy
    by_cases e : i' = i
    · subst e
      rw [List.getElem?_set_self hil] at hx'
      cases hx'
      rw [hi1] at hy
      cases hy
      exact hz
    · rw [List.getElem?_set_ne (Ne.symm e)] at hx'
      rcases h.inn _ _ _ _ hx' hy with hown | ⟨g', L', u1, u2, u3, u4, u5⟩
      · exact .inl hown
      · by_cases hne' : ys' = []
        · exact .inl hne'
        refine .inr ⟨g', L', u1, u2, u3, blk_kx u4 k ?_, u5⟩
        rintro rfl
        exact e (h.dis i' i x' x0 g' ys' ys hx' hx (by rw [hy, u1]) hi0 hne' hne)
  · intro i' x' g' ys' hx' hy hne'
    by_cases e : i' = i
    · subst e
      rw [List.getElem?_set_self hil] at hx'
      cases hx'
      rw [hi1] at hy
      cases hy
      exact h.far _ _ g ys hx hi0 hne
    · rw [List.getElem?_set_ne (Ne.symm e)] at hx'
      exact h.far _ _ g' ys' hx' hy hne'
  · have key : ∀ (a : Nat) (y : α) (g' : Nat) (zs' : List Int), (xs.set i x1)[a]? = some y → E.inn y = some (some ⟨g', 0, none⟩, zs') → zs' ≠ [] → ∃ y' ys', xs[a]? = some y' ∧ E.inn y' = some (some ⟨g', 0, none⟩, ys') ∧ ys' ≠ [] := by
      intro a y g' zs' hy hin hne'
      by_cases e : a = i
      · subst e
        rw [List.getElem?_set_self hil] at hy
        cases hy
        rw [hi1] at hin
        cases hin
        exact ⟨x0, ys, hx, hi0, hne⟩
      · rw [List.getElem?_set_ne (Ne.symm e)] at hy
        exact ⟨y, zs', hy, hin, hne'⟩
    intro a b y z g' ys' zs' hy hz' hiy hiz hny hnz
    obtain ⟨y', yy, u1, u2, u3⟩ := key a y g' ys' hy hiy hny
    obtain ⟨z', zz, v1, v2, v3⟩ := key b z g' zs' hz' hiz hnz
    exact h.dis a b y' z' g' yy zz u1 v1 u2 v2 u3 v3
/-- A whole element written into a row that is being made: the first i stand. -/
def Cpy (E : Enc α) (w : World) (g lo n : Nat) (xs : List α) : Prop := ∃ L : List Value, w.heap[g]? = some (.cells L.toArray E.T (0, 0)) ∧ L.length = n * E.n ∧ lo ≤ g ∧ OwnAt E w (some ⟨g, 0, none⟩) xs lo w.heap.size
theorem Cpy.start {L : List Value} {g n : Nat} (h : w.heap[g]? = some (.cells L.toArray E.T (0, 0))) (hl : L.length = n * E.n) (hlo : lo ≤ g) : Cpy E w g lo n [] :=
  ⟨L, h, hl, hlo, ⟨.inl rfl, fun i x B ys hx => by simp at hx, fun i x g ys hx => by simp at hx, fun i i' x x' g ys ys' hx => by simp at hx⟩⟩
theorem Cpy.below {g n : Nat} (h : Cpy E w g lo n xs) (hb : Below w.heap.size w W) : Cpy E W g lo n xs := by
  obtain ⟨L, h1, h2, h3, h4⟩ := h
  exact ⟨L, blk_below h1 hb, h2, h3, (h4.below hb).wide (Nat.le_refl _) hb.size⟩
theorem Cpy.cells {g n i : Nat} (h : Cpy E w g lo n xs) (hi : i < n) : ∀ j, j < E.n → (w.cell? ⟨g, i * E.n + j, none⟩).isSome = true := by
  obtain ⟨L, h1, h2, _⟩ := h
  intro j hj
  have h3 : i * E.n + j < n * E.n := Nat.lt_of_lt_of_le (Nat.add_lt_add_left hj _) (by rw [← Nat.succ_mul]; exact Nat.mul_le_mul_right _ hi)
  rw [blk_cell h1]
  simp [h2, h3]
theorem Cpy.free {g n : Nat} (h : Cpy E w g lo n xs) (j : Nat) : w.frozen? ⟨g, j, none⟩ = false := by
  obtain ⟨L, h1, _⟩ := h
  exact blk_frozen h1 j
theorem Cpy.store {g n : Nat} (h : Cpy E w g lo n xs) (hn : xs.length < n) (x : α)
    (hin : ∀ (B : Option Addr) (ys : List Int), E.inn x = some (B, ys) → OwnI w B ys lo w.heap.size ∧ B ≠ some ⟨g, 0, none⟩ ∧ ∀ g' : Nat, B = some ⟨g', 0, none⟩ → ∀ (i : Nat) (x' : α) (ys' : List Int), xs[i]? = some x' → E.inn x' = some (some ⟨g', 0, none⟩, ys') → ys' ≠ [] → ys = []) : Cpy E (w.setCells g (xs.length * E.n) (E.enc x)) g lo n (xs ++ [x]) := by
  obtain ⟨L, h1, h2, h3, h4⟩ := h
  have hlen : xs.length * E.n + (E.enc x).length ≤ L.length := by rw [h2, E.len, ← Nat.succ_mul]; exact Nat.mul_le_mul_right _ hn
  have hb := blk_stored (E.enc x) (xs.length * E.n) w L h1 hlen
  have hk : Kx (fun k => k = g) w (w.setCells g (xs.length * E.n) (E.enc x)) := kx_cells (fun k => k = g) rfl
  have hsz : (w.setCells g (xs.length * E.n) (E.enc x)).heap.size = w.heap.size := (setCells_same g (E.enc x) (xs.length * E.n) w).2.2.2
  have get : ∀ (i : Nat) (y : α), (xs ++ [x])[i]? = some y → xs[i]? = some y ∨ i = xs.length ∧ y = x := by
    intro i y hy
    rcases Nat.lt_or_ge i xs.length with hi | hi
    · rw [List.getElem?_append_left hi] at hy; exact .inl hy
    · rw [List.getElem?_append_right hi] at hy
      have : i - xs.length = 0 := by
        rcases Nat.eq_zero_or_pos (i - xs.length) with e | e
        · exact e
        · rw [List.getElem?_eq_none (by simp; omega)] at hy; cases hy
      rw [this] at hy
      simp at hy
      exact .inr ⟨by omega, hy.symm⟩
  have lift : ∀ (B : Option Addr) (ys : List Int), OwnI w B ys lo w.heap.size → B ≠ some ⟨g, 0, none⟩ → OwnI (w.setCells g (xs.length * E.n) (E.enc x)) B ys lo w.heap.size := by
    intro B ys ho hB
    rcases ho with e | ⟨g', L', u1, u2, u3, u4, u5⟩
    · exact .inl e
    · exact .inr ⟨g', L', u1, u2, u3, blk_kx u4 hk (by rintro rfl; exact hB u1), u5⟩
  refine ⟨_, hb, by simp only [List.length_append, List.length_take, List.length_drop]; rw [E.len] at hlen ⊢; omega, h3, ?_⟩
  rw [hsz]
  refine ⟨.inr ⟨g, _, rfl, h3, blk_lt h1, hb, ?_⟩, ?_, ?_, ?_⟩
  · intro i y hy j u hu
    have hj := enc_lt hu
    rcases get i y hy with hy | ⟨rfl, rfl⟩
    · have hi : i < xs.length := (List.getElem?_eq_some_iff.1 hy).1
      have h5 : i * E.n + j < xs.length * E.n := Nat.lt_of_lt_of_le (Nat.add_lt_add_left hj _) (by rw [← Nat.succ_mul]; exact Nat.mul_le_mul_right _ hi)
      rw [List.append_assoc, List.getElem?_append_left (by simp; omega), List.getElem?_take_of_lt h5]
      rcases h4.out with e | ⟨g', L', v1, v2, v3, v4, v5⟩
      · rw [e] at hy; simp at hy
      · cases v1
        have e := v4.symm.trans h1
        injection e with e
        injection e with e _ _
        have := congrArg Array.toList e
        simp at this
        rw [← this]
        exact v5 i y hy j u hu
    · rw [List.append_assoc, List.getElem?_append_right (by simp; omega), List.getElem?_append_left (by simp [E.len]; omega)]
      have : xs.length * E.n + j - (L.take (xs.length * E.n)).length = j := by simp; omega
      rw [this]
      exact hu
  · intro i y B ys hy hin'
    rcases get i y hy with hy | ⟨rfl, rfl⟩
    · by_cases e : ys = []
      · exact .inl e
      · refine lift _ _ (h4.inn i y B ys hy hin') ?_
        rintro rfl
        exact h4.far i y g ys hy hin' e rfl
    · exact lift _ _ (hin B ys hin').1 (hin B ys hin').2.1
  · intro i y g' ys hy hin' hne
    rcases get i y hy with hy | ⟨rfl, rfl⟩
    · exact h4.far i y g' ys hy hin' hne
    · exact fun e => (hin _ ys hin').2.1 e.symm
  · intro i i' y y' g' ys ys' hy hy' hin1 hin2 hn1 hn2
    rcases get i y hy with u | ⟨u, rfl⟩
    · rcases get i' y' hy' with v | ⟨v, rfl⟩
      · exact h4.dis i i' y y' g' ys ys' u v hin1 hin2 hn1 hn2
      · exact absurd ((hin _ ys' hin2).2.2 g' rfl i y ys u hin1 hn1) hn2
    · rcases get i' y' hy' with v | ⟨v, rfl⟩
      · exact absurd ((hin _ ys hin1).2.2 g' rfl i' y' ys' v hin2 hn2) hn1
      · exact u.trans v.symm
end
end Go.Proofs.Ytideafkiaipnoaa.Q
