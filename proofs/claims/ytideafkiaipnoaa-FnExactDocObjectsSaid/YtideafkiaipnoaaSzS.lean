/- Functions walked. -/
import Derived.Test.YtideafkiaipnoaaSz
import Derived.Test.YtideafkiaipnoaaCounts
namespace Go.Proofs.Ytideafkiaipnoaa.Q
open Go Go.RowKit Go.Proofs.YtideafkiaipnoaaW.PrintWords Go.Proofs.YtideafkiaipnoaaW.PrintLast Go.Proofs.Ytideafkiaipnoaa.Deed
set_option maxRecDepth 100000
def wt (o : Op) : Int := (o.deps.length : Int) + o.key.size + o.text.size
def tot : List Op → Int
  | [] => 0
  | o :: r => wt o + tot r
theorem tot_snoc (l : List Op) (o : Op) : tot (l ++ [o]) = tot l + wt o := by
  induction l with
  | nil => simp [tot]
  | cons x r ih => simp only [List.cons_append, tot, ih]; omega
theorem tot_nn : ∀ l : List Op, 0 ≤ tot l
  | [] => by simp [tot]
  | o :: r => by have := tot_nn r; simp only [tot, wt]; omega
theorem wt_le_tot {l : List Op} {o : Op} (h : o ∈ l) : wt o ≤ tot l := by
  induction l with
  | nil => cases h
  | cons x r ih =>
    have hn := tot_nn r
    have hw : 0 ≤ wt x := by unfold wt; omega
    rcases List.mem_cons.1 h with e | e
    · subst e; simp only [tot]; omega
    · have := ih e; simp only [tot]; omega
/-- No length is past what the machine can hold. -/
def Held (os : List Op) : Prop := os.length ≤ 9223372036854775807 ∧ ∀ o ∈ os, o.deps.length ≤ 9223372036854775807 ∧ o.key.size ≤ 9223372036854775807 ∧ o.text.size ≤ 9223372036854775807
theorem Held.at_ {os : List Op} (h : Held os) {i : Int} (h0 : 0 ≤ i) (h1 : i < os.length) : (go_ os i).deps.length ≤ 9223372036854775807 ∧ (go_ os i).key.size ≤ 9223372036854775807 ∧ (go_ os i).text.size ≤ 9223372036854775807 := h.2 _ (List.mem_of_getElem? (go_of h0 h1))
set_option maxHeartbeats 2000000 in
theorem szOS_calls (A : Option Addr) (os : List Op) (D : Nat → Option Addr) (C : Nat → Nat) (c : Nat) (left : Int) (w : World) (HR : RO w A os D C) (HH : Held os) (hf0 : 0 ≤ left) (hf1 : left ≤ 1048576) : Calls Try.prog 12 #[.slice A os.length c, .int .i64 left] w fun e w' => ∃ r, e = .returned (.int .i64 r) ∧ (0 ≤ r → (os.length : Int) + tot os + r ≤ left) ∧ Below w.heap.size w w' := by
  refine calls_of_wp Try.func12 rfl ?_
  refine enter_ (N := 27) rfl ?_
  rintro a0 hN hD ⟨s0, s1, -⟩
  have HB : Below w.heap.size w w := Below.refl _ _
  refine wp_seq ?_
  refine deedL [.eq 4 (.int .i64 0), .eq 0 (.slice A os.length c), .eq 1 (.int .i64 left), .w (Below w.heap.size w)] 27 [[]] [] [1, 2, 3] hM hN hD (by kernel_rfl) ⟨s0, s1, ⟨Below.refl _ _, below_drew (Below.refl _ _)⟩, trivial⟩ ⟨fun _ _ hb h => below_step h hb, trivial⟩ (fun hgrow => ⟨fun _ _ _ => rv rfl (x_assign rfl rfl) rfl, trivial⟩) ?_
  clear s0 s1
  clear hN hD
  rintro a1 w1 hN hD ⟨s0, s1, hGR, -⟩
  replace HB := below_step HB hGR
  clear hGR
  show Code.wp _ _ _ _ _
  refine wp_seq ?_
  have hh1 := HH.1
  refine deedL [.eq 6 (.int .i64 left), .eq 7 (.slice A os.length c), .eq 8 (.int .i64 (os.length : Int)), .eq 9 (.int .i64 (left - (os.length : Int))), .eq 1 (.int .i64 (left - (os.length : Int))), .eq 0 (.slice A os.length c), .eq 1 (.int .i64 left), .w (Below w1.heap.size w1)] 27 [[6], [5], [1], [0, 2], [3]] [[], [], [], [], [6]] [4, 5, 7] hM hN hD (by kernel_rfl) ⟨s0, s1, ⟨Below.refl _ _, below_drew (Below.refl _ _)⟩, trivial⟩ ⟨fun _ _ hb h => below_step h hb, trivial⟩ (fun hgrow => ⟨fun _ _ h => rv rfl (x_move rfl h.1) rfl,
    fun _ _ h => rv rfl (x_move rfl h.1) rfl,
    fun _ _ h => rv rfl (x_len_slice rfl Try.underlying22 h.1) rfl,
    fun _ _ h => rv rfl (x_sub' rfl h.1 h.2.1 (by omega)) rfl,
    fun _ _ h => rv rfl (x_assign rfl h.1) rfl, trivial⟩) ?_
  clear s0 s1
  clear hN hD
  rintro a2 w2 hN hD ⟨s1, s0, hGR, -⟩
  replace HB := below_step HB hGR
  clear hGR
  show Code.wp _ _ _ _ _
  refine wp_seq ?_
  refine wp_seq ?_
  refine deedL [.eq 10 (.int .i64 (left - (os.length : Int))), .eq 11 (.bool (decide (left - (os.length : Int) < 0))), .eq 0 (.slice A os.length c), .eq 1 (.int .i64 (left - (os.length : Int))), .w (Below w2.heap.size w2)] 27 [[3], [0]] [] [1, 2, 3, 4] hM hN hD (by kernel_rfl) ⟨s0, s1, ⟨Below.refl _ _, below_drew (Below.refl _ _)⟩, trivial⟩ ⟨fun _ _ hb h => below_step h hb, trivial⟩ (fun hgrow => ⟨fun _ _ h => rv rfl (x_move rfl h.1) rfl,
    fun _ _ h => rv rfl (x_lss rfl h.1 rfl) rfl, trivial⟩) ?_
  clear s0 s1
  clear hN hD
  rintro a3 w3 hN hD ⟨s11, s0, s1, hGR, -⟩
  replace HB := below_step HB hGR
  clear hGR
  show Code.wp _ _ _ _ _
  refine wp_cond (t := decide (left - (os.length : Int) < 0)) s11 ?_
  rcases Bool.eq_false_or_eq_true (decide (left - (os.length : Int) < 0)) with cd4 | cd4
  · rw [cd4]
    show Code.wp _ _ _ _ _
    have pd4 := of_decide_eq_true cd4
    refine wp_seq ?_
    refine deedL [.eq 4 (.int .i64 (-1)), .w (Below w3.heap.size w3)] 27 [[]] [] [0, 1] hM hN hD (by kernel_rfl) ⟨⟨Below.refl _ _, below_drew (Below.refl _ _)⟩, trivial⟩ ⟨fun _ _ hb h => below_step h hb, trivial⟩ (fun hgrow => ⟨fun _ _ _ => rv rfl (x_assign rfl rfl) rfl, trivial⟩) ?_
    clear s0 s1 s11
    clear hN hD
    rintro a5 w5 hN hD ⟨s4, hGR, -⟩
    replace HB := below_step HB hGR
    clear hGR
    show Code.wp _ _ _ _ _
    refine wp_ret (then_ret ?_)
    refine bodyPost_ret (results_single rfl (vtmp s4 .nil)) hD ?_
    exact ⟨-1, rfl, fun h => by omega, HB⟩
  · rw [cd4]
    show Code.wp _ _ _ _ _
    have pd4 := of_decide_eq_false cd4
    refine wp_skip ?_
    show Code.wp _ _ _ _ _
    refine wp_seq ?_
    refine wp_seq ?_
    refine deedL [.eq 5 (.int .i64 0), .eq 0 (.slice A os.length c), .eq 1 (.int .i64 (left - (os.length : Int))), .w (Below w3.heap.size w3)] 27 [[]] [] [0, 1, 2, 3] hM hN hD (by kernel_rfl) ⟨s0, s1, ⟨Below.refl _ _, below_drew (Below.refl _ _)⟩, trivial⟩ ⟨fun _ _ hb h => below_step h hb, trivial⟩ (fun hgrow => ⟨fun _ _ _ => rv rfl (x_assign rfl rfl) rfl, trivial⟩) ?_
    clear s0 s1 s11
    clear hN hD
    rintro a6 w6 hN hD ⟨s5, s0, s1, hGR, -⟩
    replace HB := below_step HB hGR
    clear hGR
    show Code.wp _ _ _ _ _
    refine wp_block ?_
    refine wp_loopN (fun n_ q_ w_ => ∃ (i : Int) (l : Int), (q_.tmps.size = 27) ∧ (q_.defers = []) ∧ (sl q_ 0 = .slice A os.length c) ∧ (sl q_ 1 = .int .i64 l) ∧ (sl q_ 5 = .int .i64 i) ∧ (Below w.heap.size w w_) ∧ (0 ≤ i) ∧ (i ≤ os.length) ∧ (0 ≤ l) ∧ ((os.length : Int) + tot (os.take i.toNat) + l ≤ left) ∧ (n_ = (os.length - i).toNat)) ((fun (i : Int) (l : Int) => (os.length - i).toNat) 0 (left - os.length)) ?_ ?_
    · exact ⟨0, (left - os.length), hN, hD, s0, s1, s5, HB, (by omega), (by omega), (by omega), (by show (os.length : Int) + 0 + (left - os.length) ≤ left; omega), rfl⟩
    clear s0 s1 s5 HB hN hD
    rintro n_7 a7 w7 ⟨i, l, hN, hD, s0, s1, s5, HB, hi0, hi1, hl0, hl, hmeas⟩
    refine wp_seq ?_
    refine wp_seq ?_
    refine deedL [.eq 12 (.int .i64 i), .eq 13 (.slice A os.length c), .eq 14 (.int .i64 (os.length : Int)), .eq 15 (.bool (decide (i < (os.length : Int)))), .eq 0 (.slice A os.length c), .eq 1 (.int .i64 l), .eq 5 (.int .i64 i), .w (Below w7.heap.size w7)] 27 [[6], [4], [1], [0, 2]] [] [3, 4, 5, 6, 7] hM hN hD (by kernel_rfl) ⟨s0, s1, s5, ⟨Below.refl _ _, below_drew (Below.refl _ _)⟩, trivial⟩ ⟨fun _ _ hb h => below_step h hb, trivial⟩ (fun hgrow => ⟨fun _ _ h => rv rfl (x_move rfl h.1) rfl,
      fun _ _ h => rv rfl (x_move rfl h.1) rfl,
      fun _ _ h => rv rfl (x_len_slice rfl Try.underlying22 h.1) rfl,
      fun _ _ h => rv rfl (x_lss rfl h.1 h.2.1) rfl, trivial⟩) ?_
    clear s0 s1 s5
    clear hN hD
    rintro a8 w8 hN hD ⟨s15, s0, s1, s5, hGR, -⟩
    replace HB := below_step HB hGR
    clear hGR
    show Code.wp _ _ _ _ _
    refine wp_cond (t := decide (i < (os.length : Int))) s15 ?_
    rcases Bool.eq_false_or_eq_true (decide (i < (os.length : Int))) with cd9 | cd9
    · rw [cd9]
      show Code.wp _ _ _ _ _
      have pd9 := of_decide_eq_true cd9
      have hi2 := pd9
      refine wp_skip ?_
      show Code.wp _ _ _ _ _
      refine wp_seq ?_
      refine wp_block ?_
      refine wp_seq ?_
      have hh := HH.at_ hi0 hi2
      have hnn := tot_nn (os.take i.toNat)
      have hz := szO_le (o := go_ os i) (left := l) (by omega)
      refine deedL [.eq 18 (.slice A os.length c), .eq 19 (.int .i64 i), .eq 20 (.pointer (some ((adr A).add (i.toNat * 12)))), .eq 21 (.agg (opc (go_ os i) (D i.toNat) (C i.toNat)).toArray), .eq 22 (.int .i64 l), .eq 23 (.int .i64 (szO (go_ os i) l)), .eq 1 (.int .i64 (szO (go_ os i) l)), .eq 0 (.slice A os.length c), .eq 1 (.int .i64 l), .eq 5 (.int .i64 i), .w (Below w8.heap.size w8)] 27 [[7], [9], [0, 1], [2, 10], [8], [3, 4], [5]] [[], [], [], [], [], [], [8]] [6, 7, 9, 10] hM hN hD (by kernel_rfl) ⟨s0, s1, s5, ⟨Below.refl _ _, below_drew (Below.refl _ _)⟩, trivial⟩ ⟨fun _ _ hb h => below_step h hb, trivial⟩ (fun hgrow => ⟨fun _ _ h => rv rfl (x_move rfl h.1) rfl,
        fun _ _ h => rv rfl (x_move rfl h.1) rfl,
        fun _ _ h => rv rfl (x_index_at rfl h.1 h.2.1 Try.underlying22 sz63 (by omega) (by omega) (RO.ad HR i (by omega) (by omega))) rfl,
        fun _ _ h => rv rfl (x_loadS rfl h.1 Try.underlying63 (opc (go_ os i) (D i.toNat) (C i.toNat)) sz63 (RO.cells HR (below_step HB h.2.1) (by omega) (by omega))) rfl,
        fun _ _ h => rv rfl (x_move rfl h.1) rfl,
        fun _ _ h => rc hgrow rfl Try.func46 (by kernel_rfl) rfl rfl (args2 h.1 h.2.1) (szO_calls (go_ os i) l _ (D i.toNat) (C i.toNat) hl0 (by omega) hh.1 hh.2.1 hh.2.2) (fun _ _ h => ⟨_, h.1, h.2, rfl⟩),
        fun _ _ h => rv rfl (x_assign rfl h.1) rfl, trivial⟩) ?_
      clear s0 s1 s5 s15
      clear hN hD
      rintro a10 w10 hN hD ⟨s1, s0, s5, hGR, -⟩
      replace HB := below_step HB hGR
      clear hGR
      show Code.wp _ _ _ _ _
      refine wp_seq ?_
      refine deedL [.eq 24 (.int .i64 (szO (go_ os i) l)), .eq 25 (.bool (decide (szO (go_ os i) l < 0))), .eq 0 (.slice A os.length c), .eq 1 (.int .i64 (szO (go_ os i) l)), .eq 5 (.int .i64 i), .w (Below w10.heap.size w10)] 27 [[3], [0]] [] [1, 2, 3, 4, 5] hM hN hD (by kernel_rfl) ⟨s0, s1, s5, ⟨Below.refl _ _, below_drew (Below.refl _ _)⟩, trivial⟩ ⟨fun _ _ hb h => below_step h hb, trivial⟩ (fun hgrow => ⟨fun _ _ h => rv rfl (x_move rfl h.1) rfl,
        fun _ _ h => rv rfl (x_lss rfl h.1 rfl) rfl, trivial⟩) ?_
      clear s0 s5 s1
      clear hN hD
      rintro a11 w11 hN hD ⟨s25, s0, s1, s5, hGR, -⟩
      replace HB := below_step HB hGR
      clear hGR
      show Code.wp _ _ _ _ _
      refine wp_cond (t := decide (szO (go_ os i) l < 0)) s25 ?_
      rcases Bool.eq_false_or_eq_true (decide (szO (go_ os i) l < 0)) with cd12 | cd12
      · rw [cd12]
        show Code.wp _ _ _ _ _
        have pd12 := of_decide_eq_true cd12
        refine wp_seq ?_
        refine deedL [.eq 4 (.int .i64 (-1)), .w (Below w11.heap.size w11)] 27 [[]] [] [0, 1] hM hN hD (by kernel_rfl) ⟨⟨Below.refl _ _, below_drew (Below.refl _ _)⟩, trivial⟩ ⟨fun _ _ hb h => below_step h hb, trivial⟩ (fun hgrow => ⟨fun _ _ _ => rv rfl (x_assign rfl rfl) rfl, trivial⟩) ?_
        clear s0 s1 s5 s25
        clear hN hD
        rintro a13 w13 hN hD ⟨s4, hGR, -⟩
        replace HB := below_step HB hGR
        clear hGR
        show Code.wp _ _ _ _ _
        refine wp_ret (blk_ret (then_ret (then_ret (blk_ret (then_ret ?_)))))
        refine bodyPost_ret (results_single rfl (vtmp s4 .nil)) hD ?_
        exact ⟨-1, rfl, fun h => by omega, HB⟩
      · rw [cd12]
        show Code.wp _ _ _ _ _
        have pd12 := of_decide_eq_false cd12
        refine wp_skip ?_
        show Code.wp _ _ _ _ _
        refine deedL [.eq 16 (.int .i64 i), .eq 17 (.int .i64 (i + 1)), .eq 5 (.int .i64 (i + 1)), .eq 0 (.slice A os.length c), .eq 1 (.int .i64 (szO (go_ os i) l)), .eq 5 (.int .i64 i), .w (Below w11.heap.size w11)] 27 [[5], [0], [1]] [[], [], [5]] [2, 3, 4, 6] hM hN hD (by kernel_rfl) ⟨s0, s1, s5, ⟨Below.refl _ _, below_drew (Below.refl _ _)⟩, trivial⟩ ⟨fun _ _ hb h => below_step h hb, trivial⟩ (fun hgrow => ⟨fun _ _ h => rv rfl (x_move rfl h.1) rfl,
          fun _ _ h => rv rfl (x_add' rfl h.1 rfl (by omega)) rfl,
          fun _ _ h => rv rfl (x_assign rfl h.1) rfl, trivial⟩) ?_
        clear s0 s1 s5 s25
        clear hN hD
        rintro a14 w14 hN hD ⟨s5, s0, s1, hGR, -⟩
        replace HB := below_step HB hGR
        clear hGR
        show ∃ m, m < n_7 ∧ _
        exact ⟨_, (by omega), ⟨(i + 1), (szO (go_ os i) l), hN, hD, s0, s1, s5, HB, (by omega), (by omega), (by omega), (by rw [take_snoc hi0 hi2, tot_snoc]; unfold wt; omega), rfl⟩⟩
    · rw [cd9]
      show Code.wp _ _ _ _ _
      have pd9 := of_decide_eq_false cd9
      refine wp_exit (then_exit (then_exit (at_exit ?_)))
      show Code.wp _ _ _ _ _
      refine wp_seq ?_
      refine deedL [.eq 26 (.int .i64 l), .eq 4 (.int .i64 l), .eq 1 (.int .i64 l), .w (Below w8.heap.size w8)] 27 [[2], [0]] [] [1, 2, 3] hM hN hD (by kernel_rfl) ⟨s1, ⟨Below.refl _ _, below_drew (Below.refl _ _)⟩, trivial⟩ ⟨fun _ _ hb h => below_step h hb, trivial⟩ (fun hgrow => ⟨fun _ _ h => rv rfl (x_move rfl h.1) rfl,
        fun _ _ h => rv rfl (x_assign rfl h.1) rfl, trivial⟩) ?_
      clear s0 s1 s5 s15
      clear hN hD
      rintro a15 w15 hN hD ⟨s4, s1, hGR, -⟩
      replace HB := below_step HB hGR
      clear hGR
      show Code.wp _ _ _ _ _
      refine wp_ret ?_
      refine bodyPost_ret (results_single rfl (vtmp s4 .nil)) hD ?_
      exact ⟨_, rfl, fun _ => (by rw [show i.toNat = os.length by omega, List.take_length] at hl; exact hl), HB⟩
end Go.Proofs.Ytideafkiaipnoaa.Q
