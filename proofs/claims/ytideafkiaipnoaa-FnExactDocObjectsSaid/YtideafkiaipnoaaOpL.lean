/- What the law asks of a log: its size, its marks. -/
import Derived.Test.YtideafkiaipnoaaBridge
import Derived.Test.YtideafkiaipnoaaMarkI
import Derived.Test.YtideafkiaipnoaaSzS
namespace Go.Proofs.Ytideafkiaipnoaa.Q
open Go Go.RowKit Go.Proofs.YtideafkiaipnoaaW.PrintWords Go.Proofs.Ytideafkiaipnoaa.Deed
theorem szOpS_L (A : Option Addr) (ys : List LO) (c : Nat) (left : Int) (w : World) (HR : RV eLO w A ys) (HC : Caps ys) (HH : Held (ys.map LO.o)) (h0 : 0 ≤ left) (h1 : left ≤ 1048576) :
    Calls Try.prog 12 #[.slice A ys.length c, .int .i64 left] w fun e w' => ∃ r, e = .returned (.int .i64 r) ∧ (0 ≤ r → (ys.length : Int) + tot (ys.map LO.o) + r ≤ left) ∧ Below w.heap.size w w' := by
  have := szOS_calls A (ys.map LO.o) (dA ys) (dC ys) c left w (RO_of HR HC) HH h0 h1
  rwa [List.length_map] at this
theorem dep_le {ys : List LO} {n : Int} (h : tot (ys.map LO.o) ≤ n) : ∀ x ∈ ys, (x.o.deps.length : Int) ≤ n := by
  intro x hx
  have := wt_le_tot (List.mem_map_of_mem (f := LO.o) hx)
  unfold wt at this
  omega
theorem dep_le' {ys : List LO} {n : Nat} (h : tot (ys.map LO.o) ≤ n) : ∀ x ∈ ys, x.o.deps.length ≤ n := fun x hx => by have := dep_le h x hx; omega
theorem cnt_tot (ys : List LO) : cntL mLO ys ≤ 11 * ys.length + tot (ys.map LO.o) := by
  induction ys with
  | nil => simp [cntL, tot]
  | cons x r ih =>
    have h1 : mLO.cnt x = 11 + (x.o.deps.length : Int) := rfl
    simp only [cntL, List.map_cons, tot, List.length_cons, wt, h1]
    omega
theorem len_of {ys ls : List LO} (h : ys.map LO.o = ls.map LO.o) : ys.length = ls.length := by simpa using congrArg List.length h
theorem dep_of {ys ls : List LO} {n : Nat} (h : ys.map LO.o = ls.map LO.o) (hl : ∀ x ∈ ls, x.o.deps.length ≤ n) : ∀ x ∈ ys, x.o.deps.length ≤ n := by
  intro x hx
  have h1 : x.o ∈ ls.map LO.o := h ▸ List.mem_map_of_mem (f := LO.o) hx
  obtain ⟨z, hz, e⟩ := List.mem_map.1 h1
  rw [← e]
  exact hl z hz
theorem len_of' {ys : List LO} {os : List Op} (h : ys.map LO.o = os) : ys.length = os.length := by rw [← h, List.length_map]
theorem toOpS_L (A : Option Addr) (xs : List LO) (c : Nat) (w : World) (HR : RV eLO w A xs) (hxn : xs.length ≤ 1048576) (hdl : ∀ x ∈ xs, x.o.deps.length ≤ 1048576) :
    Calls Try.prog 14 #[.slice A xs.length c] w fun e w' => ∃ A c ys, e = .returned (.slice A (xs.map LO.o).length c) ∧ OwnAt eLO w' A ys w.heap.size w'.heap.size ∧ ys.map LO.o = xs.map LO.o ∧ Caps ys ∧ Below w.heap.size w w' := by
  refine (toseLO_calls A xs c w HR hxn hdl).mono ?_
  rintro e w' ⟨A', c', ys, rfl, _, h1, h2, h3, hb⟩
  exact ⟨A', c', ys, by rw [len_of' h2], h1, h2, h3, hb⟩
theorem eqOpS_L (A : Option Addr) (xs : List LO) (c : Nat) (os : List Op) (E : Option Addr) (ys : List LO) (d : Nat) (ps : List Op) (w : World) (h1 : xs.map LO.o = os) (h2 : ys.map LO.o = ps) (HR1 : RV eLO w A xs) (HR2 : RV eLO w E ys) (hxn : os.length ≤ 1099511627776) (hn : ∀ o ∈ os, o.deps.length ≤ 1099511627776) :
    Calls Try.prog 17 #[.slice A os.length c, .slice E ps.length d] w fun e w' => e = .returned (.bool (eqB os ps)) ∧ Below w.heap.size w w' := by
  subst h1 h2
  have := eqseLO_calls A xs c E ys d w HR1 HR2 (by rwa [List.length_map] at hxn) (fun x hx => hn _ (List.mem_map_of_mem hx))
  rw [List.length_map, List.length_map]
  exact this
theorem markOpS_L (A : Option Addr) (xs : List LO) (c : Nat) (os : List Op) (k : Int) (lo hi : Nat) (w : World) (h1 : xs.map LO.o = os) (HOW : OwnAt eLO w A xs lo hi) (hk0 : 0 ≤ k) (hk1 : k + cntL mLO xs ≤ 4503599627370496) (hxn : os.length ≤ 1099511627776) :
    Calls Try.prog 18 #[.slice A os.length c, .int .i64 k] w fun e w' => e = .returned (.int .i64 (k + cntL mLO xs)) ∧ OwnAt eLO w' A (mkL mLO xs k) lo hi ∧ Kx (Mine lo hi) w w' := by
  subst h1
  rw [List.length_map] at hxn ⊢
  exact markeLO_calls A xs c k lo hi w HOW hk0 hk1 hxn
theorem markI_L (A : Option Addr) (xs : List Int) (c : Nat) (k : Int) (lo hi : Nat) (w : World) (HOW : OwnI w A xs lo hi) (hk0 : 0 ≤ k) (hk1 : k + xs.length ≤ 4503599627370496) :
    Calls Try.prog 19 #[.slice A xs.length c, .int .i64 k] w fun e w' => e = .returned (.int .i64 (k + xs.length)) ∧ OwnI w' A (mk k xs.length) lo hi ∧ Kx (Mine lo hi) w w' := by
  by_cases hne : xs = []
  · subst hne
    refine (markI_calls w.heap.size A 0 c k w (.inl rfl) hk0 hk1).mono ?_
    rintro e w' ⟨h1, _, h3⟩
    exact ⟨h1, .inl rfl, ⟨h3.os, h3.tape, h3.output, h3.size, fun j hj _ => h3.block j hj (by omega)⟩⟩
  · obtain ⟨g, hB, hlo, hhi, hWI⟩ := HOW.WI hne
    refine (markI_calls g A xs.length c k w hWI hk0 hk1).mono ?_
    rintro e w' ⟨h1, h2, h3⟩
    exact ⟨h1, h2.own hlo hhi, kx_wide h3 fun j e => by subst e; exact ⟨hlo, hhi⟩⟩
theorem cnt_mkL (ys : List LO) : ∀ k : Int, cntL mLO (mkL mLO ys k) = cntL mLO ys := by
  induction ys with
  | nil => intro k; rfl
  | cons x r ih => intro k; simp only [mkL, cntL, ih, mLO.same]
theorem held_mkI (n : Nat) (k : Int) : held (mk k n) k = k + n := by
  unfold held
  rw [mk_length, if_pos rfl]
theorem heldI_L (A : Option Addr) (v : List Int) (c : Nat) (k : Int) (w : World) (HR : RI w A (mk k v.length)) (hk0 : 0 ≤ k) (hk1 : k + v.length ≤ 4503599627370496) :
    Calls Try.prog 20 #[.slice A v.length c, .int .i64 k] w fun e w' => e = .returned (.int .i64 (k + v.length)) ∧ Below w.heap.size w w' := by
  have := heldI_calls A (mk k v.length) c k w HR hk0 (by rwa [mk_length])
  rwa [mk_length, held_mkI] at this
theorem heldOpS_L (A : Option Addr) (v : List LO) (c : Nat) (os : List Op) (k : Int) (w : World) (hm : v.map LO.o = os) (HR : RV eLO w A (mkL mLO v k)) (hk0 : 0 ≤ k) (hk1 : k + cntL mLO v ≤ 4503599627370496) (hxn : os.length ≤ 1099511627776) :
    Calls Try.prog 29 #[.slice A os.length c, .int .i64 k] w fun e w' => e = .returned (.int .i64 (k + cntL mLO v)) ∧ Below w.heap.size w w' := by
  subst hm
  rw [List.length_map] at hxn ⊢
  have := heldeLO_calls A (mkL mLO v k) c k w HR hk0 (by rwa [cnt_mkL]) (by rwa [mkL_length])
  rwa [mkL_length, held_mk] at this
end Go.Proofs.Ytideafkiaipnoaa.Q
