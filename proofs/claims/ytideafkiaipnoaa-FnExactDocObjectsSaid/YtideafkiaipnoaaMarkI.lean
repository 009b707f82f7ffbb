/- Functions walked. -/
import Derived.Test.YtideafkiaipnoaaEqI
namespace Go.Proofs.Ytideafkiaipnoaa.Q
open Go Go.RowKit Go.Proofs.YtideafkiaipnoaaW.PrintWords Go.Proofs.YtideafkiaipnoaaW.PrintLast Go.Proofs.Ytideafkiaipnoaa.Deed
set_option maxRecDepth 100000
/-- n integers that may be written: at the head of the block g, or none. -/
def WI (w : World) (g : Nat) (A : Option Addr) (n : Nat) : Prop := n = 0 ∨ A = some ⟨g, 0, none⟩ ∧ ∃ L : List Value, w.heap[g]? = some (.cells L.toArray 3 (0, 0)) ∧ n ≤ L.length
/-- The first i of them are marks. -/
def MI (w : World) (g : Nat) (A : Option Addr) (n : Nat) (k i : Int) : Prop := n = 0 ∨ A = some ⟨g, 0, none⟩ ∧ ∃ L : List Value, w.heap[g]? = some (.cells L.toArray 3 (0, 0)) ∧ n ≤ L.length ∧ ∀ j : Int, 0 ≤ j → j < i → L[j.toNat]? = some (.int .i64 (k + j))
theorem WI.start {w : World} {g : Nat} {A : Option Addr} {n : Nat} (h : WI w g A n) (k : Int) : MI w g A n k 0 := by
  rcases h with h | ⟨h1, L, h2, h3⟩
  · exact .inl h
  · exact .inr ⟨h1, L, h2, h3, fun j u v => by omega⟩
theorem MI.below {w W : World} {g : Nat} {A : Option Addr} {n : Nat} {k i : Int} (h : MI w g A n k i) (hb : Below w.heap.size w W) : MI W g A n k i := by
  rcases h with h | ⟨h1, L, h2, h3⟩
  · exact .inl h
  · exact .inr ⟨h1, L, blk_below h2 hb, h3⟩
theorem MI.at_ {w : World} {g : Nat} {A : Option Addr} {n : Nat} {k i : Int} (h : MI w g A n k i) {j : Int} (h0 : 0 ≤ j) (h1 : j < n) : A = some (adr A) ∧ (adr A).add (j.toNat * 1) = ⟨g, j.toNat, none⟩ ∧ (∃ u, w.cell? ⟨g, j.toNat, none⟩ = some u) ∧ w.frozen? ⟨g, j.toNat, none⟩ = false := by
  rcases h with h | ⟨h2, L, h3, h4, _⟩
  · omega
  · subst h2
    have : j.toNat < L.length := by omega
    exact ⟨rfl, by show (⟨g, 0, none⟩ : Addr).add _ = _; rw [add_mk]; simp, ⟨L[j.toNat], by rw [blk_cell h3]; simp [this]⟩, blk_frozen h3 _⟩
theorem MI.set {w : World} {g : Nat} {A : Option Addr} {n : Nat} {k i : Int} (h : MI w g A n k i) (h0 : 0 ≤ i) (h1 : i < n) : MI (w.setCell ⟨g, i.toNat, none⟩ (.int .i64 (k + i))) g A n k (i + 1) := by
  rcases h with h | ⟨h2, L, h3, h4, h5⟩
  · omega
  · refine .inr ⟨h2, _, blk_setL h3 _ _, by simpa using h4, fun j u v => ?_⟩
    by_cases e : j = i
    · subst e
      rw [List.getElem?_set_self (by omega)]
    · rw [List.getElem?_set_ne (by omega)]
      exact h5 j u (by omega)
theorem MI.RI {w : World} {g : Nat} {A : Option Addr} {n : Nat} {k : Int} (h : MI w g A n k n) : RI w A (mk k n) := by
  intro i x hx
  have hi : i < n := by have := (List.getElem?_eq_some_iff.1 hx).1; rwa [mk_length] at this
  rcases h with h | ⟨h2, L, h3, h4, h5⟩
  · omega
  · subst h2
    refine ⟨rfl, ?_⟩
    show w.cell? ((⟨g, 0, none⟩ : Addr).add i) = _
    rw [add_mk, Nat.zero_add, blk_cell h3]
    have := h5 i (by omega) (by omega)
    have hx' : x = k + i := by
      unfold mk at hx
      rw [List.getElem?_map, List.getElem?_range hi] at hx
      simpa using hx.symm
    rw [hx']
    simpa using this
set_option maxHeartbeats 2000000 in
theorem markI_calls (g : Nat) (A : Option Addr) (n c : Nat) (k : Int) (w : World) (HW : WI w g A n) (hk0 : 0 ≤ k) (hk1 : k + n ≤ 4503599627370496) : Calls Try.prog 19 #[.slice A n c, .int .i64 k] w fun e w' => e = .returned (.int .i64 (k + n)) ∧ MI w' g A n k n ∧ Kx (fun k => k = g) w w' := by
  refine calls_of_wp Try.func19 rfl ?_
  refine enter_ (N := 19) rfl ?_
  rintro a0 hN hD ⟨s0, s1, -⟩
  have HMI := HW.start k
  have HKX : Kx (fun k => k = g) w w := Kx.refl _ _
  refine wp_seq ?_
  refine deedL [.eq 4 (.int .i64 0), .eq 0 (.slice A n c), .eq 1 (.int .i64 k), .w (Below w.heap.size w)] 19 [[]] [] [1, 2, 3] hM hN hD (by kernel_rfl) ⟨s0, s1, ⟨Below.refl _ _, below_drew (Below.refl _ _)⟩, trivial⟩ ⟨fun _ _ hb h => below_step h hb, trivial⟩ (fun hgrow => ⟨fun _ _ _ => rv rfl (x_assign rfl rfl) rfl, trivial⟩) ?_
  clear s0 s1
  clear hN hD
  rintro a1 w1 hN hD ⟨s0, s1, hGR, -⟩
  replace HMI := HMI.below hGR
  replace HKX := HKX.step hGR
  clear hGR
  show Code.wp _ _ _ _ _
  refine wp_seq ?_
  refine wp_seq ?_
  refine deedL [.eq 5 (.int .i64 0), .eq 0 (.slice A n c), .eq 1 (.int .i64 k), .w (Below w1.heap.size w1)] 19 [[]] [] [0, 1, 2, 3] hM hN hD (by kernel_rfl) ⟨s0, s1, ⟨Below.refl _ _, below_drew (Below.refl _ _)⟩, trivial⟩ ⟨fun _ _ hb h => below_step h hb, trivial⟩ (fun hgrow => ⟨fun _ _ _ => rv rfl (x_assign rfl rfl) rfl, trivial⟩) ?_
  clear s0 s1
  clear hN hD
  rintro a2 w2 hN hD ⟨s5, s0, s1, hGR, -⟩
  replace HMI := HMI.below hGR
  replace HKX := HKX.step hGR
  clear hGR
  show Code.wp _ _ _ _ _
  refine wp_block ?_
  refine wp_loopN (fun n_ q_ w_ => ∃ (i : Int), (q_.tmps.size = 19) ∧ (q_.defers = []) ∧ (sl q_ 0 = .slice A n c) ∧ (sl q_ 1 = .int .i64 (k + i)) ∧ (sl q_ 5 = .int .i64 i) ∧ (MI w_ g A n k i) ∧ (Kx (fun k => k = g) w w_) ∧ (0 ≤ i) ∧ (i ≤ n) ∧ (n_ = (n - i).toNat)) ((fun (i : Int) => (n - i).toNat) 0) ?_ ?_
  · exact ⟨0, hN, hD, s0, (by rw [s1]; congr 1; omega), s5, HMI, HKX, (by omega), (by omega), rfl⟩
  clear s0 s1 s5 HMI HKX hN hD
  rintro n_3 a3 w3 ⟨i, hN, hD, s0, s1, s5, HMI, HKX, hi0, hi1, hmeas⟩
  refine wp_seq ?_
  refine wp_seq ?_
  refine deedL [.eq 6 (.int .i64 i), .eq 7 (.slice A n c), .eq 8 (.int .i64 (n : Int)), .eq 9 (.bool (decide (i < (n : Int)))), .eq 0 (.slice A n c), .eq 1 (.int .i64 (k + i)), .eq 5 (.int .i64 i), .w (Below w3.heap.size w3)] 19 [[6], [4], [1], [0, 2]] [] [3, 4, 5, 6, 7] hM hN hD (by kernel_rfl) ⟨s0, s1, s5, ⟨Below.refl _ _, below_drew (Below.refl _ _)⟩, trivial⟩ ⟨fun _ _ hb h => below_step h hb, trivial⟩ (fun hgrow => ⟨fun _ _ h => rv rfl (x_move rfl h.1) rfl,
    fun _ _ h => rv rfl (x_move rfl h.1) rfl,
    fun _ _ h => rv rfl (x_len_slice rfl Try.underlying24 h.1) rfl,
    fun _ _ h => rv rfl (x_lss rfl h.1 h.2.1) rfl, trivial⟩) ?_
  clear s0 s1 s5
  clear hN hD
  rintro a4 w4 hN hD ⟨s9, s0, s1, s5, hGR, -⟩
  replace HMI := HMI.below hGR
  replace HKX := HKX.step hGR
  clear hGR
  show Code.wp _ _ _ _ _
  refine wp_cond (t := decide (i < (n : Int))) s9 ?_
  rcases Bool.eq_false_or_eq_true (decide (i < (n : Int))) with cd5 | cd5
  · rw [cd5]
    show Code.wp _ _ _ _ _
    have pd5 := of_decide_eq_true cd5
    have hi2 := pd5
    refine wp_skip ?_
    show Code.wp _ _ _ _ _
    refine wp_seq ?_
    refine wp_block ?_
    refine wp_seq ?_
    have hai := HMI.at_ hi0 hi2
    refine deedL [.eq 12 (.slice A n c), .eq 13 (.int .i64 i), .eq 14 (.int .i64 (k + i)), .eq 15 (.pointer (some ((adr A).add (i.toNat * 1)))), .w fun W => MI W g A n k (i + 1) ∧ Kx (fun k => k = g) w4 W, .eq 0 (.slice A n c), .eq 1 (.int .i64 (k + i)), .eq 5 (.int .i64 i), .w (Below w4.heap.size w4)] 19 [[5], [7], [6], [0, 1], [3, 2, 8]] [[], [], [], [], [8]] [4, 5, 6, 7] hM hN hD (by kernel_rfl) ⟨s0, s1, s5, ⟨Below.refl _ _, below_drew (Below.refl _ _)⟩, trivial⟩ ⟨fun _ _ hb h => ⟨h.1.below hb, h.2.step hb⟩, fun _ _ hb h => below_step h hb, trivial⟩ (fun hgrow => ⟨fun _ _ h => rv rfl (x_move rfl h.1) rfl,
      fun _ _ h => rv rfl (x_move rfl h.1) rfl,
      fun _ _ h => rv rfl (x_move rfl h.1) rfl,
      fun _ _ h => rv rfl (x_index_at rfl h.1 h.2.1 Try.underlying24 sz3 hi0 hi2 hai.1) rfl,
      ?_, trivial⟩) ?_
    · rintro a_ W ⟨h3, h2, h8, -⟩
      have hm := HMI.below h8
      have hb4 := hm.at_ hi0 hi2
      obtain ⟨u_, hu_⟩ := hb4.2.2.1
      refine runs_skip (wanted_none rfl) (x_store1 rfl (h3.trans (by rw [hai.2.1])) h2 rfl sz3 hu_ hb4.2.2.2) ?_
      exact owe_keep trivial ⟨hm.set hi0 hi2, kx_tr (kx_of_below h8 _) (kx_set (fun k => k = g) rfl _ _)⟩
    clear s0 s1 s5 s9
    clear hN hD
    clear HMI
    rintro a6 w6 hN hD ⟨⟨HMIN, hkx⟩, s0, s1, s5, -⟩
    replace HKX := (kx_tr HKX hkx)
    have HMI := HMIN
    clear HMIN
    show Code.wp _ _ _ _ _
    refine deedL [.eq 16 (.int .i64 (k + i)), .eq 17 (.int .i64 (k + i + 1)), .eq 1 (.int .i64 (k + i + 1)), .eq 0 (.slice A n c), .eq 1 (.int .i64 (k + i)), .eq 5 (.int .i64 i), .w (Below w6.heap.size w6)] 19 [[4], [0], [1]] [[], [], [4]] [2, 3, 5, 6] hM hN hD (by kernel_rfl) ⟨s0, s1, s5, ⟨Below.refl _ _, below_drew (Below.refl _ _)⟩, trivial⟩ ⟨fun _ _ hb h => below_step h hb, trivial⟩ (fun hgrow => ⟨fun _ _ h => rv rfl (x_move rfl h.1) rfl,
      fun _ _ h => rv rfl (x_add' rfl h.1 rfl (by omega)) rfl,
      fun _ _ h => rv rfl (x_assign rfl h.1) rfl, trivial⟩) ?_
    clear s0 s1 s5
    clear hN hD
    rintro a7 w7 hN hD ⟨s1, s0, s5, hGR, -⟩
    replace HKX := HKX.step hGR
    replace HMI := HMI.below hGR
    clear hGR
    show Code.wp _ _ _ _ _
    refine deedL [.eq 10 (.int .i64 i), .eq 11 (.int .i64 (i + 1)), .eq 5 (.int .i64 (i + 1)), .eq 0 (.slice A n c), .eq 1 (.int .i64 (k + i + 1)), .eq 5 (.int .i64 i), .w (Below w7.heap.size w7)] 19 [[5], [0], [1]] [[], [], [5]] [2, 3, 4, 6] hM hN hD (by kernel_rfl) ⟨s0, s1, s5, ⟨Below.refl _ _, below_drew (Below.refl _ _)⟩, trivial⟩ ⟨fun _ _ hb h => below_step h hb, trivial⟩ (fun hgrow => ⟨fun _ _ h => rv rfl (x_move rfl h.1) rfl,
      fun _ _ h => rv rfl (x_add' rfl h.1 rfl (by omega)) rfl,
      fun _ _ h => rv rfl (x_assign rfl h.1) rfl, trivial⟩) ?_
    clear s0 s5 s1
    clear hN hD
    rintro a8 w8 hN hD ⟨s5, s0, s1, hGR, -⟩
    replace HKX := HKX.step hGR
    replace HMI := HMI.below hGR
    clear hGR
    show ∃ m, m < n_3 ∧ _
    exact ⟨_, (by omega), ⟨(i + 1), hN, hD, s0, (by rw [s1]; congr 1; omega), s5, HMI, HKX, (by omega), (by omega), rfl⟩⟩
  · rw [cd5]
    show Code.wp _ _ _ _ _
    have pd5 := of_decide_eq_false cd5
    refine wp_exit (then_exit (then_exit (at_exit ?_)))
    show Code.wp _ _ _ _ _
    refine wp_seq ?_
    refine deedL [.eq 18 (.int .i64 (k + i)), .eq 4 (.int .i64 (k + i)), .eq 1 (.int .i64 (k + i)), .w (Below w4.heap.size w4)] 19 [[2], [0]] [] [1, 2, 3] hM hN hD (by kernel_rfl) ⟨s1, ⟨Below.refl _ _, below_drew (Below.refl _ _)⟩, trivial⟩ ⟨fun _ _ hb h => below_step h hb, trivial⟩ (fun hgrow => ⟨fun _ _ h => rv rfl (x_move rfl h.1) rfl,
      fun _ _ h => rv rfl (x_assign rfl h.1) rfl, trivial⟩) ?_
    clear s0 s1 s5 s9
    clear hN hD
    rintro a9 w9 hN hD ⟨s4, s1, hGR, -⟩
    replace HMI := HMI.below hGR
    replace HKX := HKX.step hGR
    clear hGR
    show Code.wp _ _ _ _ _
    refine wp_ret ?_
    refine bodyPost_ret (results_single rfl (vtmp s4 .nil)) hD ?_
    have hin : i = n := by omega
    exact ⟨by rw [hin], by rw [hin] at HMI; exact HMI, HKX⟩
end Go.Proofs.Ytideafkiaipnoaa.Q
