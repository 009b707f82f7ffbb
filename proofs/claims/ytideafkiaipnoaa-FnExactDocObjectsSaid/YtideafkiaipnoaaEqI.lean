/- Functions walked. -/
import Derived.Test.YtideafkiaipnoaaOwn
namespace Go.Proofs.Ytideafkiaipnoaa.Q
open Go Go.RowKit Go.Proofs.YtideafkiaipnoaaW.PrintWords Go.Proofs.YtideafkiaipnoaaW.PrintLast Go.Proofs.Ytideafkiaipnoaa.Deed
set_option maxRecDepth 100000
theorem list_eq {xs ys : List Int} (hl : xs.length = ys.length) (h : ∀ j : Int, 0 ≤ j → j < xs.length → gi xs j = gi ys j) : xs = ys := by
  apply List.ext_getElem hl
  intro i h1 h2
  have := h i (by omega) (by omega)
  simpa [gi, List.getD_eq_getElem?_getD, h1, h2] using this
theorem beq_ne {xs ys : List Int} {j : Int} (h : gi xs j ≠ gi ys j) : (xs == ys) = false := by
  rw [beq_eq_false_iff_ne]
  rintro rfl
  exact h rfl
theorem beq_len {xs ys : List Int} (h : xs.length ≠ ys.length) : (xs == ys) = false := by
  rw [beq_eq_false_iff_ne]
  rintro rfl
  exact h rfl
set_option maxHeartbeats 2000000 in
theorem eqI_calls (A : Option Addr) (xs : List Int) (c : Nat) (E : Option Addr) (ys : List Int) (d : Nat) (w : World) (HR1 : RI w A xs) (HR2 : RI w E ys) (hn : xs.length ≤ 1099511627776) : Calls Try.prog 16 #[.slice A xs.length c, .slice E ys.length d] w fun e w' => e = .returned (.bool (xs == ys)) ∧ Below w.heap.size w w' := by
  refine calls_of_wp Try.func16 rfl ?_
  refine enter_ (N := 26) rfl ?_
  rintro a0 hN hD ⟨s0, s1, -⟩
  have HB : Below w.heap.size w w := Below.refl _ _
  refine wp_seq ?_
  refine deedL [.eq 4 (.bool false), .eq 0 (.slice A xs.length c), .eq 1 (.slice E ys.length d), .w (Below w.heap.size w)] 26 [[]] [] [1, 2, 3] hM hN hD (by kernel_rfl) ⟨s0, s1, ⟨Below.refl _ _, below_drew (Below.refl _ _)⟩, trivial⟩ ⟨fun _ _ hb h => below_step h hb, trivial⟩ (fun hgrow => ⟨fun _ _ _ => rv rfl (x_assign rfl rfl) rfl, trivial⟩) ?_
  clear s0 s1
  clear hN hD
  rintro a1 w1 hN hD ⟨s0, s1, hGR, -⟩
  replace HB := below_step HB hGR
  clear hGR
  show Code.wp _ _ _ _ _
  refine wp_seq ?_
  refine wp_seq ?_
  refine deedL [.eq 6 (.slice A xs.length c), .eq 7 (.int .i64 (xs.length : Int)), .eq 8 (.slice E ys.length d), .eq 9 (.int .i64 (ys.length : Int)), .eq 10 (.bool ((xs.length : Int) != (ys.length : Int))), .eq 0 (.slice A xs.length c), .eq 1 (.slice E ys.length d), .w (Below w1.heap.size w1)] 26 [[5], [0], [6], [2], [1, 3]] [] [4, 5, 6, 7] hM hN hD (by kernel_rfl) ⟨s0, s1, ⟨Below.refl _ _, below_drew (Below.refl _ _)⟩, trivial⟩ ⟨fun _ _ hb h => below_step h hb, trivial⟩ (fun hgrow => ⟨fun _ _ h => rv rfl (x_move rfl h.1) rfl,
    fun _ _ h => rv rfl (x_len_slice rfl Try.underlying24 h.1) rfl,
    fun _ _ h => rv rfl (x_move rfl h.1) rfl,
    fun _ _ h => rv rfl (x_len_slice rfl Try.underlying24 h.1) rfl,
    fun _ _ h => rv rfl (x_neq rfl h.1 h.2.1) rfl, trivial⟩) ?_
  clear s0 s1
  clear hN hD
  rintro a2 w2 hN hD ⟨s10, s0, s1, hGR, -⟩
  replace HB := below_step HB hGR
  clear hGR
  show Code.wp _ _ _ _ _
  refine wp_cond (t := (xs.length : Int) != (ys.length : Int)) s10 ?_
  rcases Bool.eq_false_or_eq_true ((xs.length : Int) != (ys.length : Int)) with cd3 | cd3
  · rw [cd3]
    show Code.wp _ _ _ _ _
    have pd3 := cd3
    simp at pd3
    refine wp_seq ?_
    refine deedL [.eq 4 (.bool false), .w (Below w2.heap.size w2)] 26 [[]] [] [0, 1] hM hN hD (by kernel_rfl) ⟨⟨Below.refl _ _, below_drew (Below.refl _ _)⟩, trivial⟩ ⟨fun _ _ hb h => below_step h hb, trivial⟩ (fun hgrow => ⟨fun _ _ _ => rv rfl (x_assign rfl rfl) rfl, trivial⟩) ?_
    clear s0 s1 s10
    clear hN hD
    rintro a4 w4 hN hD ⟨s4, hGR, -⟩
    replace HB := below_step HB hGR
    clear hGR
    show Code.wp _ _ _ _ _
    refine wp_ret (then_ret ?_)
    refine bodyPost_ret (results_single rfl (vtmp s4 .nil)) hD ?_
    exact ⟨by rw [beq_len (fun h => pd3 (by rw [h]))], HB⟩
  · rw [cd3]
    show Code.wp _ _ _ _ _
    have pd3 := cd3
    simp at pd3
    have hl : (xs.length : Int) = ys.length := by simpa using cd3
    refine wp_skip ?_
    show Code.wp _ _ _ _ _
    refine wp_seq ?_
    refine wp_seq ?_
    refine deedL [.eq 5 (.int .i64 0), .eq 0 (.slice A xs.length c), .eq 1 (.slice E ys.length d), .w (Below w2.heap.size w2)] 26 [[]] [] [0, 1, 2, 3] hM hN hD (by kernel_rfl) ⟨s0, s1, ⟨Below.refl _ _, below_drew (Below.refl _ _)⟩, trivial⟩ ⟨fun _ _ hb h => below_step h hb, trivial⟩ (fun hgrow => ⟨fun _ _ _ => rv rfl (x_assign rfl rfl) rfl, trivial⟩) ?_
    clear s0 s1 s10
    clear hN hD
    rintro a5 w5 hN hD ⟨s5, s0, s1, hGR, -⟩
    replace HB := below_step HB hGR
    clear hGR
    show Code.wp _ _ _ _ _
    refine wp_block ?_
    refine wp_loopN (fun n_ q_ w_ => ∃ (i : Int), (q_.tmps.size = 26) ∧ (q_.defers = []) ∧ (sl q_ 0 = .slice A xs.length c) ∧ (sl q_ 1 = .slice E ys.length d) ∧ (sl q_ 5 = .int .i64 i) ∧ (Below w.heap.size w w_) ∧ (0 ≤ i) ∧ (i ≤ xs.length) ∧ (∀ j : Int, 0 ≤ j → j < i → gi xs j = gi ys j) ∧ (n_ = (xs.length - i).toNat)) ((fun (i : Int) => (xs.length - i).toNat) 0) ?_ ?_
    · exact ⟨0, hN, hD, s0, s1, s5, HB, (by omega), (by omega), (by intro j u v; omega), rfl⟩
    clear s0 s1 s5 HB hN hD
    rintro n_6 a6 w6 ⟨i, hN, hD, s0, s1, s5, HB, hi0, hi1, hi, hmeas⟩
    refine wp_seq ?_
    refine wp_seq ?_
    refine deedL [.eq 11 (.int .i64 i), .eq 12 (.slice A xs.length c), .eq 13 (.int .i64 (xs.length : Int)), .eq 14 (.bool (decide (i < (xs.length : Int)))), .eq 0 (.slice A xs.length c), .eq 1 (.slice E ys.length d), .eq 5 (.int .i64 i), .w (Below w6.heap.size w6)] 26 [[6], [4], [1], [0, 2]] [] [3, 4, 5, 6, 7] hM hN hD (by kernel_rfl) ⟨s0, s1, s5, ⟨Below.refl _ _, below_drew (Below.refl _ _)⟩, trivial⟩ ⟨fun _ _ hb h => below_step h hb, trivial⟩ (fun hgrow => ⟨fun _ _ h => rv rfl (x_move rfl h.1) rfl,
      fun _ _ h => rv rfl (x_move rfl h.1) rfl,
      fun _ _ h => rv rfl (x_len_slice rfl Try.underlying24 h.1) rfl,
      fun _ _ h => rv rfl (x_lss rfl h.1 h.2.1) rfl, trivial⟩) ?_
    clear s0 s1 s5
    clear hN hD
    rintro a7 w7 hN hD ⟨s14, s0, s1, s5, hGR, -⟩
    replace HB := below_step HB hGR
    clear hGR
    show Code.wp _ _ _ _ _
    refine wp_cond (t := decide (i < (xs.length : Int))) s14 ?_
    rcases Bool.eq_false_or_eq_true (decide (i < (xs.length : Int))) with cd8 | cd8
    · rw [cd8]
      show Code.wp _ _ _ _ _
      have pd8 := of_decide_eq_true cd8
      refine wp_skip ?_
      show Code.wp _ _ _ _ _
      refine wp_seq ?_
      refine wp_block ?_
      refine wp_seq ?_
      refine deedL [.eq 17 (.slice A xs.length c), .eq 18 (.int .i64 i), .eq 19 (.pointer (some ((adr A).add (i.toNat * 1)))), .eq 20 (.int .i64 (gi xs i)), .eq 21 (.slice E ys.length d), .eq 22 (.int .i64 i), .eq 23 (.pointer (some ((adr E).add (i.toNat * 1)))), .eq 24 (.int .i64 (gi ys i)), .eq 25 (.bool ((gi xs i) != (gi ys i))), .eq 0 (.slice A xs.length c), .eq 1 (.slice E ys.length d), .eq 5 (.int .i64 i), .w (Below w7.heap.size w7)] 26 [[9], [11], [0, 1], [2, 12], [10], [11], [4, 5], [6, 12], [3, 7]] [] [8, 9, 10, 11, 12] hM hN hD (by kernel_rfl) ⟨s0, s1, s5, ⟨Below.refl _ _, below_drew (Below.refl _ _)⟩, trivial⟩ ⟨fun _ _ hb h => below_step h hb, trivial⟩ (fun hgrow => ⟨fun _ _ h => rv rfl (x_move rfl h.1) rfl,
        fun _ _ h => rv rfl (x_move rfl h.1) rfl,
        fun _ _ h => rv rfl (x_index_at rfl h.1 h.2.1 Try.underlying24 sz3 (by omega) (by omega) (RI.ad HR1 i (by omega) (by omega))) rfl,
        fun _ _ h => rv rfl (x_load1 rfl h.1 Try.underlying3 rfl (RI.at_ HR1 (below_step HB h.2.1) (by omega) (by omega))) rfl,
        fun _ _ h => rv rfl (x_move rfl h.1) rfl,
        fun _ _ h => rv rfl (x_move rfl h.1) rfl,
        fun _ _ h => rv rfl (x_index_at rfl h.1 h.2.1 Try.underlying24 sz3 (by omega) (by omega) (RI.ad HR2 i (by omega) (by omega))) rfl,
        fun _ _ h => rv rfl (x_load1 rfl h.1 Try.underlying3 rfl (RI.at_ HR2 (below_step HB h.2.1) (by omega) (by omega))) rfl,
        fun _ _ h => rv rfl (x_neq rfl h.1 h.2.1) rfl, trivial⟩) ?_
      clear s0 s1 s5 s14
      clear hN hD
      rintro a9 w9 hN hD ⟨s25, s0, s1, s5, hGR, -⟩
      replace HB := below_step HB hGR
      clear hGR
      show Code.wp _ _ _ _ _
      refine wp_cond (t := (gi xs i) != (gi ys i)) s25 ?_
      rcases Bool.eq_false_or_eq_true ((gi xs i) != (gi ys i)) with cd10 | cd10
      · rw [cd10]
        show Code.wp _ _ _ _ _
        have pd10 := cd10
        simp at pd10
        have hs : gi xs i ≠ gi ys i := by simpa using cd10
        refine wp_seq ?_
        refine deedL [.eq 4 (.bool false), .w (Below w9.heap.size w9)] 26 [[]] [] [0, 1] hM hN hD (by kernel_rfl) ⟨⟨Below.refl _ _, below_drew (Below.refl _ _)⟩, trivial⟩ ⟨fun _ _ hb h => below_step h hb, trivial⟩ (fun hgrow => ⟨fun _ _ _ => rv rfl (x_assign rfl rfl) rfl, trivial⟩) ?_
        clear s0 s1 s5 s25
        clear hN hD
        rintro a11 w11 hN hD ⟨s4, hGR, -⟩
        replace HB := below_step HB hGR
        clear hGR
        show Code.wp _ _ _ _ _
        refine wp_ret (blk_ret (then_ret (then_ret (blk_ret (then_ret ?_)))))
        refine bodyPost_ret (results_single rfl (vtmp s4 .nil)) hD ?_
        exact ⟨by rw [beq_ne (j := i) hs], HB⟩
      · rw [cd10]
        show Code.wp _ _ _ _ _
        have pd10 := cd10
        simp at pd10
        have hs : gi xs i = gi ys i := by simpa using cd10
        refine wp_skip ?_
        show Code.wp _ _ _ _ _
        refine deedL [.eq 15 (.int .i64 i), .eq 16 (.int .i64 (i + 1)), .eq 5 (.int .i64 (i + 1)), .eq 0 (.slice A xs.length c), .eq 1 (.slice E ys.length d), .eq 5 (.int .i64 i), .w (Below w9.heap.size w9)] 26 [[5], [0], [1]] [[], [], [5]] [2, 3, 4, 6] hM hN hD (by kernel_rfl) ⟨s0, s1, s5, ⟨Below.refl _ _, below_drew (Below.refl _ _)⟩, trivial⟩ ⟨fun _ _ hb h => below_step h hb, trivial⟩ (fun hgrow => ⟨fun _ _ h => rv rfl (x_move rfl h.1) rfl,
          fun _ _ h => rv rfl (x_add' rfl h.1 rfl (by omega)) rfl,
          fun _ _ h => rv rfl (x_assign rfl h.1) rfl, trivial⟩) ?_
        clear s0 s1 s5 s25
        clear hN hD
        rintro a12 w12 hN hD ⟨s5, s0, s1, hGR, -⟩
        replace HB := below_step HB hGR
        clear hGR
        show ∃ m, m < n_6 ∧ _
        exact ⟨_, (by omega), ⟨(i + 1), hN, hD, s0, s1, s5, HB, (by omega), (by omega), (by intro j u v; by_cases e : j = i; (subst e; exact hs); exact hi j u (by omega)), rfl⟩⟩
    · rw [cd8]
      show Code.wp _ _ _ _ _
      have pd8 := of_decide_eq_false cd8
      refine wp_exit (then_exit (then_exit (at_exit ?_)))
      show Code.wp _ _ _ _ _
      refine wp_seq ?_
      refine deedL [.eq 4 (.bool true), .w (Below w7.heap.size w7)] 26 [[]] [] [0, 1] hM hN hD (by kernel_rfl) ⟨⟨Below.refl _ _, below_drew (Below.refl _ _)⟩, trivial⟩ ⟨fun _ _ hb h => below_step h hb, trivial⟩ (fun hgrow => ⟨fun _ _ _ => rv rfl (x_assign rfl rfl) rfl, trivial⟩) ?_
      clear s0 s1 s5 s14
      clear hN hD
      rintro a13 w13 hN hD ⟨s4, hGR, -⟩
      replace HB := below_step HB hGR
      clear hGR
      show Code.wp _ _ _ _ _
      refine wp_ret ?_
      refine bodyPost_ret (results_single rfl (vtmp s4 .nil)) hD ?_
      exact ⟨by rw [show (xs == ys) = true from beq_iff_eq.2 (list_eq (by omega) (fun j u v => hi j u (by omega)))], HB⟩
/-- The marks k, k + 1, .. -/
def mk (k : Int) (n : Nat) : List Int := (List.range n).map fun (i : Nat) => k + i
theorem mk_length (k : Int) (n : Nat) : (mk k n).length = n := by simp [mk]
theorem gi_mk {k : Int} {n : Nat} {i : Int} (h0 : 0 ≤ i) (h1 : i < n) : gi (mk k n) i = k + i := by
  have : i.toNat < n := by omega
  unfold gi mk
  simp [List.getD_eq_getElem?_getD, this]
  omega
/-- What heldIntS answers. -/
def held (xs : List Int) (k : Int) : Int := if xs = mk k xs.length then k + xs.length else -1
set_option maxHeartbeats 2000000 in
theorem heldI_calls (A : Option Addr) (xs : List Int) (c : Nat) (k : Int) (w : World) (HR1 : RI w A xs) (hk0 : 0 ≤ k) (hk1 : k + xs.length ≤ 4503599627370496) : Calls Try.prog 20 #[.slice A xs.length c, .int .i64 k] w fun e w' => e = .returned (.int .i64 (held xs k)) ∧ Below w.heap.size w w' := by
  refine calls_of_wp Try.func20 rfl ?_
  refine enter_ (N := 21) rfl ?_
  rintro a0 hN hD ⟨s0, s1, -⟩
  have HB : Below w.heap.size w w := Below.refl _ _
  refine wp_seq ?_
  refine deedL [.eq 4 (.int .i64 0), .eq 0 (.slice A xs.length c), .eq 1 (.int .i64 k), .w (Below w.heap.size w)] 21 [[]] [] [1, 2, 3] hM hN hD (by kernel_rfl) ⟨s0, s1, ⟨Below.refl _ _, below_drew (Below.refl _ _)⟩, trivial⟩ ⟨fun _ _ hb h => below_step h hb, trivial⟩ (fun hgrow => ⟨fun _ _ _ => rv rfl (x_assign rfl rfl) rfl, trivial⟩) ?_
  clear s0 s1
  clear hN hD
  rintro a1 w1 hN hD ⟨s0, s1, hGR, -⟩
  replace HB := below_step HB hGR
  clear hGR
  show Code.wp _ _ _ _ _
  refine wp_seq ?_
  refine wp_seq ?_
  refine deedL [.eq 5 (.int .i64 0), .eq 0 (.slice A xs.length c), .eq 1 (.int .i64 k), .w (Below w1.heap.size w1)] 21 [[]] [] [0, 1, 2, 3] hM hN hD (by kernel_rfl) ⟨s0, s1, ⟨Below.refl _ _, below_drew (Below.refl _ _)⟩, trivial⟩ ⟨fun _ _ hb h => below_step h hb, trivial⟩ (fun hgrow => ⟨fun _ _ _ => rv rfl (x_assign rfl rfl) rfl, trivial⟩) ?_
  clear s0 s1
  clear hN hD
  rintro a2 w2 hN hD ⟨s5, s0, s1, hGR, -⟩
  replace HB := below_step HB hGR
  clear hGR
  show Code.wp _ _ _ _ _
  refine wp_block ?_
  refine wp_loopN (fun n_ q_ w_ => ∃ (i : Int), (q_.tmps.size = 21) ∧ (q_.defers = []) ∧ (sl q_ 0 = .slice A xs.length c) ∧ (sl q_ 1 = .int .i64 (k + i)) ∧ (sl q_ 5 = .int .i64 i) ∧ (Below w.heap.size w w_) ∧ (0 ≤ i) ∧ (i ≤ xs.length) ∧ (∀ j : Int, 0 ≤ j → j < i → gi xs j = k + j) ∧ (n_ = (xs.length - i).toNat)) ((fun (i : Int) => (xs.length - i).toNat) 0) ?_ ?_
  · exact ⟨0, hN, hD, s0, (by rw [s1]; congr 1; omega), s5, HB, (by omega), (by omega), (by intro j u v; omega), rfl⟩
  clear s0 s1 s5 HB hN hD
  rintro n_3 a3 w3 ⟨i, hN, hD, s0, s1, s5, HB, hi0, hi1, hi, hmeas⟩
  refine wp_seq ?_
  refine wp_seq ?_
  refine deedL [.eq 6 (.int .i64 i), .eq 7 (.slice A xs.length c), .eq 8 (.int .i64 (xs.length : Int)), .eq 9 (.bool (decide (i < (xs.length : Int)))), .eq 0 (.slice A xs.length c), .eq 1 (.int .i64 (k + i)), .eq 5 (.int .i64 i), .w (Below w3.heap.size w3)] 21 [[6], [4], [1], [0, 2]] [] [3, 4, 5, 6, 7] hM hN hD (by kernel_rfl) ⟨s0, s1, s5, ⟨Below.refl _ _, below_drew (Below.refl _ _)⟩, trivial⟩ ⟨fun _ _ hb h => below_step h hb, trivial⟩ (fun hgrow => ⟨fun _ _ h => rv rfl (x_move rfl h.1) rfl,
    fun _ _ h => rv rfl (x_move rfl h.1) rfl,
    fun _ _ h => rv rfl (x_len_slice rfl Try.underlying24 h.1) rfl,
    fun _ _ h => rv rfl (x_lss rfl h.1 h.2.1) rfl, trivial⟩) ?_
  clear s0 s1 s5
  clear hN hD
  rintro a4 w4 hN hD ⟨s9, s0, s1, s5, hGR, -⟩
  replace HB := below_step HB hGR
  clear hGR
  show Code.wp _ _ _ _ _
  refine wp_cond (t := decide (i < (xs.length : Int))) s9 ?_
  rcases Bool.eq_false_or_eq_true (decide (i < (xs.length : Int))) with cd5 | cd5
  · rw [cd5]
    show Code.wp _ _ _ _ _
    have pd5 := of_decide_eq_true cd5
    refine wp_skip ?_
    show Code.wp _ _ _ _ _
    refine wp_seq ?_
    refine wp_block ?_
    refine wp_seq ?_
    refine wp_seq ?_
    refine deedL [.eq 12 (.slice A xs.length c), .eq 13 (.int .i64 i), .eq 14 (.pointer (some ((adr A).add (i.toNat * 1)))), .eq 15 (.int .i64 (gi xs i)), .eq 16 (.int .i64 (k + i)), .eq 17 (.bool ((gi xs i) != (k + i))), .eq 0 (.slice A xs.length c), .eq 1 (.int .i64 (k + i)), .eq 5 (.int .i64 i), .w (Below w4.heap.size w4)] 21 [[6], [8], [0, 1], [2, 9], [7], [3, 4]] [] [5, 6, 7, 8, 9] hM hN hD (by kernel_rfl) ⟨s0, s1, s5, ⟨Below.refl _ _, below_drew (Below.refl _ _)⟩, trivial⟩ ⟨fun _ _ hb h => below_step h hb, trivial⟩ (fun hgrow => ⟨fun _ _ h => rv rfl (x_move rfl h.1) rfl,
      fun _ _ h => rv rfl (x_move rfl h.1) rfl,
      fun _ _ h => rv rfl (x_index_at rfl h.1 h.2.1 Try.underlying24 sz3 (by omega) (by omega) (RI.ad HR1 i (by omega) (by omega))) rfl,
      fun _ _ h => rv rfl (x_load1 rfl h.1 Try.underlying3 rfl (RI.at_ HR1 (below_step HB h.2.1) (by omega) (by omega))) rfl,
      fun _ _ h => rv rfl (x_move rfl h.1) rfl,
      fun _ _ h => rv rfl (x_neq rfl h.1 h.2.1) rfl, trivial⟩) ?_
    clear s0 s1 s5 s9
    clear hN hD
    rintro a6 w6 hN hD ⟨s17, s0, s1, s5, hGR, -⟩
    replace HB := below_step HB hGR
    clear hGR
    show Code.wp _ _ _ _ _
    refine wp_cond (t := (gi xs i) != (k + i)) s17 ?_
    rcases Bool.eq_false_or_eq_true ((gi xs i) != (k + i)) with cd7 | cd7
    · rw [cd7]
      show Code.wp _ _ _ _ _
      have pd7 := cd7
      simp at pd7
      have hs : ¬ gi xs i = k + i := by simpa using cd7
      refine wp_seq ?_
      refine deedL [.eq 4 (.int .i64 (-1)), .w (Below w6.heap.size w6)] 21 [[]] [] [0, 1] hM hN hD (by kernel_rfl) ⟨⟨Below.refl _ _, below_drew (Below.refl _ _)⟩, trivial⟩ ⟨fun _ _ hb h => below_step h hb, trivial⟩ (fun hgrow => ⟨fun _ _ _ => rv rfl (x_assign rfl rfl) rfl, trivial⟩) ?_
      clear s0 s1 s5 s17
      clear hN hD
      rintro a8 w8 hN hD ⟨s4, hGR, -⟩
      replace HB := below_step HB hGR
      clear hGR
      show Code.wp _ _ _ _ _
      refine wp_ret (then_ret (blk_ret (then_ret (then_ret (blk_ret (then_ret ?_))))))
      refine bodyPost_ret (results_single rfl (vtmp s4 .nil)) hD ?_
      exact ⟨by unfold held; rw [if_neg (fun h => hs (by have := gi_mk (k := k) (n := xs.length) hi0 (by omega); rwa [← h] at this))], HB⟩
    · rw [cd7]
      show Code.wp _ _ _ _ _
      have pd7 := cd7
      simp at pd7
      have hs : gi xs i = k + i := by simpa using cd7
      refine wp_skip ?_
      show Code.wp _ _ _ _ _
      refine deedL [.eq 18 (.int .i64 (k + i)), .eq 19 (.int .i64 (k + i + 1)), .eq 1 (.int .i64 (k + i + 1)), .eq 0 (.slice A xs.length c), .eq 1 (.int .i64 (k + i)), .eq 5 (.int .i64 i), .w (Below w6.heap.size w6)] 21 [[4], [0], [1]] [[], [], [4]] [2, 3, 5, 6] hM hN hD (by kernel_rfl) ⟨s0, s1, s5, ⟨Below.refl _ _, below_drew (Below.refl _ _)⟩, trivial⟩ ⟨fun _ _ hb h => below_step h hb, trivial⟩ (fun hgrow => ⟨fun _ _ h => rv rfl (x_move rfl h.1) rfl,
        fun _ _ h => rv rfl (x_add' rfl h.1 rfl (by omega)) rfl,
        fun _ _ h => rv rfl (x_assign rfl h.1) rfl, trivial⟩) ?_
      clear s0 s1 s5 s17
      clear hN hD
      rintro a9 w9 hN hD ⟨s1, s0, s5, hGR, -⟩
      replace HB := below_step HB hGR
      clear hGR
      show Code.wp _ _ _ _ _
      refine deedL [.eq 10 (.int .i64 i), .eq 11 (.int .i64 (i + 1)), .eq 5 (.int .i64 (i + 1)), .eq 0 (.slice A xs.length c), .eq 1 (.int .i64 (k + i + 1)), .eq 5 (.int .i64 i), .w (Below w9.heap.size w9)] 21 [[5], [0], [1]] [[], [], [5]] [2, 3, 4, 6] hM hN hD (by kernel_rfl) ⟨s0, s1, s5, ⟨Below.refl _ _, below_drew (Below.refl _ _)⟩, trivial⟩ ⟨fun _ _ hb h => below_step h hb, trivial⟩ (fun hgrow => ⟨fun _ _ h => rv rfl (x_move rfl h.1) rfl,
        fun _ _ h => rv rfl (x_add' rfl h.1 rfl (by omega)) rfl,
        fun _ _ h => rv rfl (x_assign rfl h.1) rfl, trivial⟩) ?_
      clear s0 s5 s1
      clear hN hD
      rintro a10 w10 hN hD ⟨s5, s0, s1, hGR, -⟩
      replace HB := below_step HB hGR
      clear hGR
      show ∃ m, m < n_3 ∧ _
      exact ⟨_, (by omega), ⟨(i + 1), hN, hD, s0, (by rw [s1]; congr 1; omega), s5, HB, (by omega), (by omega), (by intro j u v; by_cases e : j = i; (subst e; exact hs); exact hi j u (by omega)), rfl⟩⟩
  · rw [cd5]
    show Code.wp _ _ _ _ _
    have pd5 := of_decide_eq_false cd5
    refine wp_exit (then_exit (then_exit (at_exit ?_)))
    show Code.wp _ _ _ _ _
    refine wp_seq ?_
    refine deedL [.eq 20 (.int .i64 (k + i)), .eq 4 (.int .i64 (k + i)), .eq 1 (.int .i64 (k + i)), .w (Below w4.heap.size w4)] 21 [[2], [0]] [] [1, 2, 3] hM hN hD (by kernel_rfl) ⟨s1, ⟨Below.refl _ _, below_drew (Below.refl _ _)⟩, trivial⟩ ⟨fun _ _ hb h => below_step h hb, trivial⟩ (fun hgrow => ⟨fun _ _ h => rv rfl (x_move rfl h.1) rfl,
      fun _ _ h => rv rfl (x_assign rfl h.1) rfl, trivial⟩) ?_
    clear s0 s1 s5 s9
    clear hN hD
    rintro a11 w11 hN hD ⟨s4, s1, hGR, -⟩
    replace HB := below_step HB hGR
    clear hGR
    show Code.wp _ _ _ _ _
    refine wp_ret ?_
    refine bodyPost_ret (results_single rfl (vtmp s4 .nil)) hD ?_
    exact ⟨by unfold held; rw [if_pos (list_eq (mk_length _ _).symm (fun j u v => by rw [gi_mk u (by omega)]; exact hi j u (by omega)))]; congr 3; omega, HB⟩
end Go.Proofs.Ytideafkiaipnoaa.Q
