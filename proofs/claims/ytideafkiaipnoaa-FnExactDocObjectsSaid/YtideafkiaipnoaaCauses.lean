/- Functions walked. -/
import Derived.Test.YtideafkiaipnoaaCounts
namespace Go.Proofs.Ytideafkiaipnoaa.Q
open Go Go.RowKit Go.Proofs.YtideafkiaipnoaaW.PrintWords Go.Proofs.YtideafkiaipnoaaW.PrintLast Go.Proofs.Ytideafkiaipnoaa.Deed
set_option maxRecDepth 100000
/-- The place of the n-th of actor a. -/
def find (os : List Op) (a n : Int) : Int := match os.findIdx? (fun o => o.actor == a) with
  | none => -1
  | some i => if n < 1 ∨ (os.length : Int) - i < n ∨ (go_ os (i + n - 1)).actor ≠ a then -1 else i + n - 1
theorem find_none {os : List Op} {a n : Int} (h : ∀ j : Int, 0 ≤ j → j < os.length → (go_ os j).actor ≠ a) : find os a n = -1 := by
  have : os.findIdx? (fun o => o.actor == a) = none := by
    rw [List.findIdx?_eq_none_iff]
    intro o ho
    obtain ⟨k, hk, e⟩ := List.getElem_of_mem ho
    have := h k (by omega) (by omega)
    have e2 : go_ os (k : Int) = o := by simp [go_, List.getD_eq_getElem?_getD, hk, e]
    rw [e2] at this
    simpa using this
  simp [find, this]
theorem find_some {os : List Op} {a n i : Int} (h0 : 0 ≤ i) (h1 : i < os.length) (h : ∀ j : Int, 0 ≤ j → j < i → (go_ os j).actor ≠ a) (ha : (go_ os i).actor = a) : find os a n = if n < 1 ∨ (os.length : Int) - i < n ∨ (go_ os (i + n - 1)).actor ≠ a then -1 else i + n - 1 := by
  have : os.findIdx? (fun o => o.actor == a) = some i.toNat := by
    rw [List.findIdx?_eq_some_iff_getElem]
    have hl : i.toNat < os.length := by omega
    have e2 : os[i.toNat] = go_ os i := by simp [go_, List.getD_eq_getElem?_getD, hl]
    refine ⟨hl, by rw [e2]; simpa using ha, fun j hj => ?_⟩
    have hl2 : j < os.length := by omega
    have := h j (by omega) (by omega)
    have e3 : go_ os (j : Int) = os[j] := by simp [go_, List.getD_eq_getElem?_getD, hl2]
    rw [e3] at this
    simpa using this
  unfold find
  rw [this]
  simp only [Int.toNat_of_nonneg h0]
set_option maxHeartbeats 2000000 in
theorem sFind_calls (A : Option Addr) (os : List Op) (D : Nat → Option Addr) (C : Nat → Nat) (c : Nat) (a n : Int) (w : World) (HR : RO w A os D C) (HL : os.length ≤ 4096) : Calls Try.prog 83 #[.slice A os.length c, .int .i64 a, .int .i64 n] w fun e w' => e = .returned (.int .i64 (find os a n)) ∧ Below w.heap.size w w' := by
  refine calls_of_wp Try.func83 rfl ?_
  refine enter_ (N := 47) rfl ?_
  rintro a0 hN hD ⟨s0, s1, s2, -⟩
  have HB : Below w.heap.size w w := Below.refl _ _
  refine wp_seq ?_
  refine deedL [.eq 6 (.int .i64 0), .eq 0 (.slice A os.length c), .eq 1 (.int .i64 a), .eq 2 (.int .i64 n), .w (Below w.heap.size w)] 47 [[]] [] [1, 2, 3, 4] hM hN hD (by kernel_rfl) ⟨s0, s1, s2, ⟨Below.refl _ _, below_drew (Below.refl _ _)⟩, trivial⟩ ⟨fun _ _ hb h => below_step h hb, trivial⟩ (fun hgrow => ⟨fun _ _ _ => rv rfl (x_assign rfl rfl) rfl, trivial⟩) ?_
  clear s0 s1 s2
  clear hN hD
  rintro a1 w1 hN hD ⟨s0, s1, s2, hGR, -⟩
  replace HB := below_step HB hGR
  clear hGR
  show Code.wp _ _ _ _ _
  refine wp_seq ?_
  refine wp_seq ?_
  refine deedL [.eq 7 (.int .i64 0), .eq 0 (.slice A os.length c), .eq 1 (.int .i64 a), .eq 2 (.int .i64 n), .w (Below w1.heap.size w1)] 47 [[]] [] [0, 1, 2, 3, 4] hM hN hD (by kernel_rfl) ⟨s0, s1, s2, ⟨Below.refl _ _, below_drew (Below.refl _ _)⟩, trivial⟩ ⟨fun _ _ hb h => below_step h hb, trivial⟩ (fun hgrow => ⟨fun _ _ _ => rv rfl (x_assign rfl rfl) rfl, trivial⟩) ?_
  clear s0 s1 s2
  clear hN hD
  rintro a2 w2 hN hD ⟨s7, s0, s1, s2, hGR, -⟩
  replace HB := below_step HB hGR
  clear hGR
  show Code.wp _ _ _ _ _
  refine wp_block ?_
  refine wp_loopN (fun n_ q_ w_ => ∃ (i : Int), (q_.tmps.size = 47) ∧ (q_.defers = []) ∧ (sl q_ 0 = .slice A os.length c) ∧ (sl q_ 1 = .int .i64 a) ∧ (sl q_ 2 = .int .i64 n) ∧ (sl q_ 7 = .int .i64 i) ∧ (Below w.heap.size w w_) ∧ (0 ≤ i) ∧ (i ≤ os.length) ∧ (∀ j : Int, 0 ≤ j → j < i → (go_ os j).actor ≠ a) ∧ (n_ = (os.length - i).toNat)) ((fun (i : Int) => (os.length - i).toNat) 0) ?_ ?_
  · exact ⟨0, hN, hD, s0, s1, s2, s7, HB, (by omega), (by omega), (by intro j h0 h1; omega), rfl⟩
  clear s0 s1 s2 s7 HB hN hD
  rintro n_3 a3 w3 ⟨i, hN, hD, s0, s1, s2, s7, HB, hi0, hi1, hi, hmeas⟩
  refine wp_seq ?_
  refine wp_seq ?_
  refine deedL [.eq 8 (.int .i64 i), .eq 9 (.slice A os.length c), .eq 10 (.int .i64 (os.length : Int)), .eq 11 (.bool (decide (i < (os.length : Int)))), .eq 0 (.slice A os.length c), .eq 1 (.int .i64 a), .eq 2 (.int .i64 n), .eq 7 (.int .i64 i), .w (Below w3.heap.size w3)] 47 [[7], [4], [1], [0, 2]] [] [3, 4, 5, 6, 7, 8] hM hN hD (by kernel_rfl) ⟨s0, s1, s2, s7, ⟨Below.refl _ _, below_drew (Below.refl _ _)⟩, trivial⟩ ⟨fun _ _ hb h => below_step h hb, trivial⟩ (fun hgrow => ⟨fun _ _ h => rv rfl (x_move rfl h.1) rfl,
    fun _ _ h => rv rfl (x_move rfl h.1) rfl,
    fun _ _ h => rv rfl (x_len_slice rfl Try.underlying27 h.1) rfl,
    fun _ _ h => rv rfl (x_lss rfl h.1 h.2.1) rfl, trivial⟩) ?_
  clear s0 s1 s2 s7
  clear hN hD
  rintro a4 w4 hN hD ⟨s11, s0, s1, s2, s7, hGR, -⟩
  replace HB := below_step HB hGR
  clear hGR
  show Code.wp _ _ _ _ _
  refine wp_cond (t := decide (i < (os.length : Int))) s11 ?_
  rcases Bool.eq_false_or_eq_true (decide (i < (os.length : Int))) with cd5 | cd5
  · rw [cd5]
    show Code.wp _ _ _ _ _
    have pd5 := of_decide_eq_true cd5
    refine wp_skip ?_
    show Code.wp _ _ _ _ _
    refine wp_seq ?_
    refine wp_block ?_
    refine wp_seq ?_
    refine deedL [.eq 14 (.slice A os.length c), .eq 15 (.int .i64 i), .eq 16 (.pointer (some ((adr A).add (i.toNat * 12)))), .eq 17 (.pointer (some ((adr A).add (i.toNat * 12)))), .eq 18 (.int .i64 ((go_ os i).actor)), .eq 19 (.int .i64 a), .eq 20 (.bool (((go_ os i).actor) == a)), .eq 0 (.slice A os.length c), .eq 1 (.int .i64 a), .eq 2 (.int .i64 n), .eq 7 (.int .i64 i), .w (Below w4.heap.size w4)] 47 [[7], [10], [0, 1], [2], [3, 11], [8], [4, 5]] [] [6, 7, 8, 9, 10, 11] hM hN hD (by kernel_rfl) ⟨s0, s1, s2, s7, ⟨Below.refl _ _, below_drew (Below.refl _ _)⟩, trivial⟩ ⟨fun _ _ hb h => below_step h hb, trivial⟩ (fun hgrow => ⟨fun _ _ h => rv rfl (x_move rfl h.1) rfl,
      fun _ _ h => rv rfl (x_move rfl h.1) rfl,
      fun _ _ h => rv rfl (x_index_at rfl h.1 h.2.1 Try.underlying27 sz67 (by omega) (by omega) (RO.ad HR i (by omega) (by omega))) rfl,
      fun _ _ h => rv rfl (x_field rfl h.1 Try.underlying67 rfl sz3 (by decide) rfl) rfl,
      fun _ _ h => rv rfl (x_load1 rfl h.1 Try.underlying3 rfl (RO.cell0 HR (below_step HB h.2.1) (by omega) (by omega))) rfl,
      fun _ _ h => rv rfl (x_move rfl h.1) rfl,
      fun _ _ h => rv rfl (x_eql rfl h.1 h.2.1) rfl, trivial⟩) ?_
    clear s0 s1 s2 s7 s11
    clear hN hD
    rintro a6 w6 hN hD ⟨s20, s0, s1, s2, s7, hGR, -⟩
    replace HB := below_step HB hGR
    clear hGR
    show Code.wp _ _ _ _ _
    refine wp_cond (t := ((go_ os i).actor) == a) s20 ?_
    rcases Bool.eq_false_or_eq_true (((go_ os i).actor) == a) with cd7 | cd7
    · rw [cd7]
      show Code.wp _ _ _ _ _
      have pd7 := eq_of_beq cd7
      have pda := eq_of_beq cd7
      refine wp_seq ?_
      refine wp_seq ?_
      refine deedL (.eq 21 (.int .i64 n) :: .eq 22 (.bool (decide (n < 1))) :: .eq 23 (.bool (decide (n < 1))) :: .gv (((decide (n < 1)) == false)) 24 (.int .i64 n) :: .gv (((decide (n < 1)) == false)) 25 (.slice A os.length c) :: .gv (((decide (n < 1)) == false)) 26 (.int .i64 (os.length : Int)) :: .gv (((decide (n < 1)) == false)) 27 (.int .i64 i) :: .gv (((decide (n < 1)) == false)) 28 (.int .i64 ((os.length : Int) - i)) :: .gv (((decide (n < 1)) == false)) 29 (.bool (decide ((os.length : Int) - i < n))) :: .eq 30 (.bool ((decide (n < 1)) || (decide ((os.length : Int) - i < n)))) :: .eq 31 (.bool ((decide (n < 1)) || (decide ((os.length : Int) - i < n)))) :: .gv ((((decide (n < 1)) || (decide ((os.length : Int) - i < n))) == false)) 32 (.slice A os.length c) :: .gv ((((decide (n < 1)) || (decide ((os.length : Int) - i < n))) == false)) 33 (.int .i64 i) :: .gv ((((decide (n < 1)) || (decide ((os.length : Int) - i < n))) == false)) 34 (.int .i64 n) :: .gv ((((decide (n < 1)) || (decide ((os.length : Int) - i < n))) == false)) 35 (.int .i64 (i + n)) :: .gv ((((decide (n < 1)) || (decide ((os.length : Int) - i < n))) == false)) 36 (.int .i64 ((i + n) - 1)) :: .gv ((((decide (n < 1)) || (decide ((os.length : Int) - i < n))) == false)) 37 (.pointer (some ((adr A).add (((i + n) - 1).toNat * 12)))) :: .gv ((((decide (n < 1)) || (decide ((os.length : Int) - i < n))) == false)) 38 (.pointer (some ((adr A).add (((i + n) - 1).toNat * 12)))) :: .gv ((((decide (n < 1)) || (decide ((os.length : Int) - i < n))) == false)) 39 (.int .i64 ((go_ os ((i + n) - 1)).actor)) :: .gv ((((decide (n < 1)) || (decide ((os.length : Int) - i < n))) == false)) 40 (.int .i64 a) :: .gv ((((decide (n < 1)) || (decide ((os.length : Int) - i < n))) == false)) 41 (.bool (((go_ os ((i + n) - 1)).actor) != a)) :: .eq 42 (.bool (((decide (n < 1)) || (decide ((os.length : Int) - i < n))) || (((go_ os ((i + n) - 1)).actor) != a))) :: .eq 0 (.slice A os.length c) :: .eq 1 (.int .i64 a) :: .eq 2 (.int .i64 n) :: .eq 7 (.int .i64 i) :: .w (Below w6.heap.size w6) :: []) 47 ([24] :: [0] :: [1] :: [2, 24] :: [2, 22] :: [2, 4] :: [2, 25] :: [2, 5, 6] :: [2, 3, 7] :: [2, 8] :: [9] :: [10, 22] :: [10, 25] :: [10, 24] :: [10, 12, 13] :: [10, 14] :: [10, 11, 15] :: [10, 16] :: [10, 17, 26] :: [10, 23] :: [10, 18, 19] :: [10, 20] :: []) [] [21, 22, 23, 24, 25, 26] hM hN hD (by kernel_rfl) ⟨s0, s1, s2, s7, ⟨Below.refl _ _, below_drew (Below.refl _ _)⟩, trivial⟩ ⟨fun _ _ hb h => below_step h hb, trivial⟩ (fun hgrow => ⟨fun _ _ h => rv rfl (x_move rfl h.1) rfl,
        fun _ _ h => rv rfl (x_lss rfl h.1 rfl) rfl,
        fun _ _ h => rv rfl (x_move rfl h.1) rfl,
        fun _ _ h => rb rfl rfl h.1 (fun hgt => x_move rfl h.2.1) (fun _ z => z),
        fun _ _ h => rb rfl rfl h.1 (fun hgt => x_move rfl h.2.1) (fun _ z => z),
        fun _ _ h => rb rfl rfl h.1 (fun hgt => x_len_slice rfl Try.underlying27 (h.2.1.1 hgt)) (fun _ z => z),
        fun _ _ h => rb rfl rfl h.1 (fun hgt => x_move rfl h.2.1) (fun _ z => z),
        fun _ _ h => rb rfl rfl h.1 (fun hgt => x_sub' rfl (h.2.1.1 hgt) (h.2.2.1.1 hgt) (by simp at hgt; omega)) (fun _ z => z),
        fun _ _ h => rb rfl rfl h.1 (fun hgt => x_gtr rfl (h.2.1.1 hgt) (h.2.2.1.1 hgt)) (fun _ z => z),
        fun _ _ h => rv rfl (x_or rfl rfl h.1 (fun hc => h.2.1.1 (beq_iff_eq.2 hc))) rfl,
        fun _ _ h => rv rfl (x_move rfl h.1) rfl,
        fun _ _ h => rb rfl rfl h.1 (fun hgt => x_move rfl h.2.1) (fun _ z => z),
        fun _ _ h => rb rfl rfl h.1 (fun hgt => x_move rfl h.2.1) (fun _ z => z),
        fun _ _ h => rb rfl rfl h.1 (fun hgt => x_move rfl h.2.1) (fun _ z => z),
        fun _ _ h => rb rfl rfl h.1 (fun hgt => x_add' rfl (h.2.1.1 hgt) (h.2.2.1.1 hgt) (by simp at hgt; omega)) (fun _ z => z),
        fun _ _ h => rb rfl rfl h.1 (fun hgt => x_sub' rfl (h.2.1.1 hgt) rfl (by simp at hgt; omega)) (fun _ z => z),
        fun _ _ h => rb rfl rfl h.1 (fun hgt => x_index_at rfl (h.2.1.1 hgt) (h.2.2.1.1 hgt) Try.underlying27 sz67 (by simp at hgt; omega) (by simp at hgt; omega) (RO.ad HR ((i + n) - 1) (by simp at hgt; omega) (by simp at hgt; omega))) (fun _ z => z),
        fun _ _ h => rb rfl rfl h.1 (fun hgt => x_field rfl (h.2.1.1 hgt) Try.underlying67 rfl sz3 (by decide) rfl) (fun _ z => z),
        fun _ _ h => rb rfl rfl h.1 (fun hgt => x_load1 rfl (h.2.1.1 hgt) Try.underlying3 rfl (RO.cell0 HR (below_step HB h.2.2.1) (by simp at hgt; omega) (by simp at hgt; omega))) (fun _ z => z),
        fun _ _ h => rb rfl rfl h.1 (fun hgt => x_move rfl h.2.1) (fun _ z => z),
        fun _ _ h => rb rfl rfl h.1 (fun hgt => x_neq rfl (h.2.1.1 hgt) (h.2.2.1.1 hgt)) (fun _ z => z),
        fun _ _ h => rv rfl (x_or rfl rfl h.1 (fun hc => h.2.1.1 (beq_iff_eq.2 hc))) rfl, trivial⟩) ?_
      clear s0 s1 s2 s7 s20
      clear hN hD
      rintro a8 w8 hN hD ⟨s42, s0, s1, s2, s7, hGR, -⟩
      replace HB := below_step HB hGR
      clear hGR
      show Code.wp _ _ _ _ _
      refine wp_cond (t := ((decide (n < 1)) || (decide ((os.length : Int) - i < n))) || (((go_ os ((i + n) - 1)).actor) != a)) s42 ?_
      rcases Bool.eq_false_or_eq_true (((decide (n < 1)) || (decide ((os.length : Int) - i < n))) || (((go_ os ((i + n) - 1)).actor) != a)) with cd9 | cd9
      · rw [cd9]
        show Code.wp _ _ _ _ _
        have hq := cd9
        simp at hq
        refine wp_seq ?_
        refine deedL [.eq 6 (.int .i64 (-1)), .w (Below w8.heap.size w8)] 47 [[]] [] [0, 1] hM hN hD (by kernel_rfl) ⟨⟨Below.refl _ _, below_drew (Below.refl _ _)⟩, trivial⟩ ⟨fun _ _ hb h => below_step h hb, trivial⟩ (fun hgrow => ⟨fun _ _ _ => rv rfl (x_assign rfl rfl) rfl, trivial⟩) ?_
        clear s0 s1 s2 s7 s42
        clear hN hD
        rintro a10 w10 hN hD ⟨s6, hGR, -⟩
        replace HB := below_step HB hGR
        clear hGR
        show Code.wp _ _ _ _ _
        refine wp_ret (then_ret (blk_ret (then_ret (then_ret (blk_ret (then_ret ?_))))))
        refine bodyPost_ret (results_single rfl (vtmp s6 .nil)) hD ?_
        exact ⟨by rw [find_some hi0 (by omega) hi pda, if_pos (by simp at cd9; omega)], HB⟩
      · rw [cd9]
        show Code.wp _ _ _ _ _
        have hq := cd9
        simp at hq
        refine wp_skip ?_
        show Code.wp _ _ _ _ _
        refine wp_seq ?_
        refine deedL [.eq 43 (.int .i64 i), .eq 44 (.int .i64 n), .eq 45 (.int .i64 (i + n)), .eq 46 (.int .i64 ((i + n) - 1)), .eq 6 (.int .i64 ((i + n) - 1)), .eq 2 (.int .i64 n), .eq 7 (.int .i64 i), .w (Below w8.heap.size w8)] 47 [[6], [5], [0, 1], [2], [3]] [] [4, 5, 6, 7] hM hN hD (by kernel_rfl) ⟨s2, s7, ⟨Below.refl _ _, below_drew (Below.refl _ _)⟩, trivial⟩ ⟨fun _ _ hb h => below_step h hb, trivial⟩ (fun hgrow => ⟨fun _ _ h => rv rfl (x_move rfl h.1) rfl,
          fun _ _ h => rv rfl (x_move rfl h.1) rfl,
          fun _ _ h => rv rfl (x_add' rfl h.1 h.2.1 (by omega)) rfl,
          fun _ _ h => rv rfl (x_sub' rfl h.1 rfl (by omega)) rfl,
          fun _ _ h => rv rfl (x_assign rfl h.1) rfl, trivial⟩) ?_
        clear s0 s1 s2 s7 s42
        clear hN hD
        rintro a11 w11 hN hD ⟨s6, s2, s7, hGR, -⟩
        replace HB := below_step HB hGR
        clear hGR
        show Code.wp _ _ _ _ _
        refine wp_ret (blk_ret (then_ret (then_ret (blk_ret (then_ret ?_)))))
        refine bodyPost_ret (results_single rfl (vtmp s6 .nil)) hD ?_
        exact ⟨by rw [find_some hi0 (by omega) hi pda, if_neg (by omega)], HB⟩
    · rw [cd7]
      show Code.wp _ _ _ _ _
      have pd7 := ne_of_beq_false cd7
      refine wp_skip ?_
      show Code.wp _ _ _ _ _
      refine deedL [.eq 12 (.int .i64 i), .eq 13 (.int .i64 (i + 1)), .eq 7 (.int .i64 (i + 1)), .eq 0 (.slice A os.length c), .eq 1 (.int .i64 a), .eq 2 (.int .i64 n), .eq 7 (.int .i64 i), .w (Below w6.heap.size w6)] 47 [[6], [0], [1]] [[], [], [6]] [2, 3, 4, 5, 7] hM hN hD (by kernel_rfl) ⟨s0, s1, s2, s7, ⟨Below.refl _ _, below_drew (Below.refl _ _)⟩, trivial⟩ ⟨fun _ _ hb h => below_step h hb, trivial⟩ (fun hgrow => ⟨fun _ _ h => rv rfl (x_move rfl h.1) rfl,
        fun _ _ h => rv rfl (x_add' rfl h.1 rfl (by omega)) rfl,
        fun _ _ h => rv rfl (x_assign rfl h.1) rfl, trivial⟩) ?_
      clear s0 s1 s2 s7 s20
      clear hN hD
      rintro a12 w12 hN hD ⟨s7, s0, s1, s2, hGR, -⟩
      replace HB := below_step HB hGR
      clear hGR
      show ∃ m, m < n_3 ∧ _
      exact ⟨_, (by omega), ⟨(i + 1), hN, hD, s0, s1, s2, s7, HB, (by omega), (by omega), (by intro j h0 h1; by_cases e : j = i; (subst e; exact ne_of_beq_false cd7); exact hi j h0 (by omega)), rfl⟩⟩
  · rw [cd5]
    show Code.wp _ _ _ _ _
    have pd5 := of_decide_eq_false cd5
    refine wp_exit (then_exit (then_exit (at_exit ?_)))
    show Code.wp _ _ _ _ _
    refine wp_seq ?_
    refine deedL [.eq 6 (.int .i64 (-1)), .w (Below w4.heap.size w4)] 47 [[]] [] [0, 1] hM hN hD (by kernel_rfl) ⟨⟨Below.refl _ _, below_drew (Below.refl _ _)⟩, trivial⟩ ⟨fun _ _ hb h => below_step h hb, trivial⟩ (fun hgrow => ⟨fun _ _ _ => rv rfl (x_assign rfl rfl) rfl, trivial⟩) ?_
    clear s0 s1 s2 s7 s11
    clear hN hD
    rintro a13 w13 hN hD ⟨s6, hGR, -⟩
    replace HB := below_step HB hGR
    clear hGR
    show Code.wp _ _ _ _ _
    refine wp_ret ?_
    refine bodyPost_ret (results_single rfl (vtmp s6 .nil)) hD ?_
    exact ⟨by rw [find_none (fun j h0 h1 => hi j h0 (by omega))], HB⟩
noncomputable def sthing (k : Int) : Int :=
 if (k == 1) = true then 1 else (if (k == 2) = true then 2 else (if (k == 3) = true then 2 else 3))
set_option maxHeartbeats 2000000 in
theorem sThing_calls (k : Int) (w : World) : Calls Try.prog 91 #[.int .i64 k] w fun e w' => e = .returned (.int .i64 (sthing k)) ∧ Below w.heap.size w w' := by
  refine calls_of_wp Try.func91 rfl ?_
  refine enter_ (N := 9) rfl ?_
  rintro a0 hN hD ⟨s0, -⟩
  have HB : Below w.heap.size w w := Below.refl _ _
  refine wp_seq ?_
  refine deedL [.eq 2 (.int .i64 0), .eq 0 (.int .i64 k), .w (Below w.heap.size w)] 9 [[]] [] [1, 2] hM hN hD (by kernel_rfl) ⟨s0, ⟨Below.refl _ _, below_drew (Below.refl _ _)⟩, trivial⟩ ⟨fun _ _ hb h => below_step h hb, trivial⟩ (fun hgrow => ⟨fun _ _ _ => rv rfl (x_assign rfl rfl) rfl, trivial⟩) ?_
  clear s0
  clear hN hD
  rintro a1 w1 hN hD ⟨s0, hGR, -⟩
  replace HB := below_step HB hGR
  clear hGR
  show Code.wp _ _ _ _ _
  refine wp_seq ?_
  refine wp_seq ?_
  refine deedL [.eq 3 (.int .i64 k), .eq 0 (.int .i64 k), .w (Below w1.heap.size w1)] 9 [[1]] [] [0, 1, 2] hM hN hD (by kernel_rfl) ⟨s0, ⟨Below.refl _ _, below_drew (Below.refl _ _)⟩, trivial⟩ ⟨fun _ _ hb h => below_step h hb, trivial⟩ (fun hgrow => ⟨fun _ _ h => rv rfl (x_move rfl h.1) rfl, trivial⟩) ?_
  clear s0
  clear hN hD
  rintro a2 w2 hN hD ⟨s3, s0, hGR, -⟩
  replace HB := below_step HB hGR
  clear hGR
  show Code.wp _ _ _ _ _
  refine wp_block ?_
  refine wp_seq ?_
  refine deedL [.eq 5 (.bool (k == 1)), .eq 4 (.bool (k == 1)), .eq 3 (.int .i64 k), .w (Below w2.heap.size w2)] 9 [[2], [0]] [] [1, 2, 3] hM hN hD (by kernel_rfl) ⟨s3, ⟨Below.refl _ _, below_drew (Below.refl _ _)⟩, trivial⟩ ⟨fun _ _ hb h => below_step h hb, trivial⟩ (fun hgrow => ⟨fun _ _ h => rv rfl (x_eql rfl h.1 rfl) rfl,
    fun _ _ h => rv rfl (x_assign rfl h.1) rfl, trivial⟩) ?_
  clear s0 s3
  clear hN hD
  rintro a3 w3 hN hD ⟨s4, s3, hGR, -⟩
  replace HB := below_step HB hGR
  clear hGR
  show Code.wp _ _ _ _ _
  refine wp_cond (t := k == 1) s4 ?_
  rcases Bool.eq_false_or_eq_true (k == 1) with cd4 | cd4
  · rw [cd4]
    show Code.wp _ _ _ _ _
    have pd4 := eq_of_beq cd4
    refine wp_seq ?_
    refine deedL [.eq 2 (.int .i64 1), .w (Below w3.heap.size w3)] 9 [[]] [] [0, 1] hM hN hD (by kernel_rfl) ⟨⟨Below.refl _ _, below_drew (Below.refl _ _)⟩, trivial⟩ ⟨fun _ _ hb h => below_step h hb, trivial⟩ (fun hgrow => ⟨fun _ _ _ => rv rfl (x_assign rfl rfl) rfl, trivial⟩) ?_
    clear s3 s4
    clear hN hD
    rintro a5 w5 hN hD ⟨s2, hGR, -⟩
    replace HB := below_step HB hGR
    clear hGR
    show Code.wp _ _ _ _ _
    refine wp_ret (blk_ret (then_ret ?_))
    refine bodyPost_ret (results_single rfl (vtmp s2 .nil)) hD ?_
    exact ⟨by simp only [sthing, cd4, if_true, if_false, Bool.false_eq_true], HB⟩
  · rw [cd4]
    show Code.wp _ _ _ _ _
    have pd4 := ne_of_beq_false cd4
    refine wp_seq ?_
    refine wp_seq ?_
    refine deedL [.eq 7 (.bool (k == 2)), .eq 6 (.bool (k == 2)), .eq 3 (.int .i64 k), .w (Below w3.heap.size w3)] 9 [[2], [0]] [] [1, 2, 3] hM hN hD (by kernel_rfl) ⟨s3, ⟨Below.refl _ _, below_drew (Below.refl _ _)⟩, trivial⟩ ⟨fun _ _ hb h => below_step h hb, trivial⟩ (fun hgrow => ⟨fun _ _ h => rv rfl (x_eql rfl h.1 rfl) rfl,
      fun _ _ h => rv rfl (x_assign rfl h.1) rfl, trivial⟩) ?_
    clear s3 s4
    clear hN hD
    rintro a6 w6 hN hD ⟨s6, s3, hGR, -⟩
    replace HB := below_step HB hGR
    clear hGR
    show Code.wp _ _ _ _ _
    refine wp_cond (t := k == 2) s6 ?_
    rcases Bool.eq_false_or_eq_true (k == 2) with cd7 | cd7
    · rw [cd7]
      show Code.wp _ _ _ _ _
      have pd7 := eq_of_beq cd7
      refine wp_skip ?_
      show Code.wp _ _ _ _ _
      refine wp_cond (t := k == 2) s6 ?_
      rw [cd7]
      show Code.wp _ _ _ _ _
      refine wp_seq ?_
      refine deedL [.eq 2 (.int .i64 2), .w (Below w6.heap.size w6)] 9 [[]] [] [0, 1] hM hN hD (by kernel_rfl) ⟨⟨Below.refl _ _, below_drew (Below.refl _ _)⟩, trivial⟩ ⟨fun _ _ hb h => below_step h hb, trivial⟩ (fun hgrow => ⟨fun _ _ _ => rv rfl (x_assign rfl rfl) rfl, trivial⟩) ?_
      clear s3 s6
      clear hN hD
      rintro a9 w9 hN hD ⟨s2, hGR, -⟩
      replace HB := below_step HB hGR
      clear hGR
      show Code.wp _ _ _ _ _
      refine wp_ret (blk_ret (then_ret ?_))
      refine bodyPost_ret (results_single rfl (vtmp s2 .nil)) hD ?_
      exact ⟨by simp only [sthing, cd4, cd7, if_true, if_false, Bool.false_eq_true], HB⟩
    · rw [cd7]
      show Code.wp _ _ _ _ _
      have pd7 := ne_of_beq_false cd7
      refine deedL [.eq 8 (.bool (k == 3)), .eq 6 (.bool (k == 3)), .eq 3 (.int .i64 k), .w (Below w6.heap.size w6)] 9 [[2], [0]] [] [1, 2, 3] hM hN hD (by kernel_rfl) ⟨s3, ⟨Below.refl _ _, below_drew (Below.refl _ _)⟩, trivial⟩ ⟨fun _ _ hb h => below_step h hb, trivial⟩ (fun hgrow => ⟨fun _ _ h => rv rfl (x_eql rfl h.1 rfl) rfl,
        fun _ _ h => rv rfl (x_assign rfl h.1) rfl, trivial⟩) ?_
      clear s3 s6
      clear hN hD
      rintro a10 w10 hN hD ⟨s6, s3, hGR, -⟩
      replace HB := below_step HB hGR
      clear hGR
      show Code.wp _ _ _ _ _
      refine wp_cond (t := k == 3) s6 ?_
      rcases Bool.eq_false_or_eq_true (k == 3) with cd11 | cd11
      · rw [cd11]
        show Code.wp _ _ _ _ _
        have pd11 := eq_of_beq cd11
        refine wp_seq ?_
        refine deedL [.eq 2 (.int .i64 2), .w (Below w10.heap.size w10)] 9 [[]] [] [0, 1] hM hN hD (by kernel_rfl) ⟨⟨Below.refl _ _, below_drew (Below.refl _ _)⟩, trivial⟩ ⟨fun _ _ hb h => below_step h hb, trivial⟩ (fun hgrow => ⟨fun _ _ _ => rv rfl (x_assign rfl rfl) rfl, trivial⟩) ?_
        clear s3 s6
        clear hN hD
        rintro a12 w12 hN hD ⟨s2, hGR, -⟩
        replace HB := below_step HB hGR
        clear hGR
        show Code.wp _ _ _ _ _
        refine wp_ret (blk_ret (then_ret ?_))
        refine bodyPost_ret (results_single rfl (vtmp s2 .nil)) hD ?_
        exact ⟨by simp only [sthing, cd4, cd7, cd11, if_true, if_false, Bool.false_eq_true], HB⟩
      · rw [cd11]
        show Code.wp _ _ _ _ _
        have pd11 := ne_of_beq_false cd11
        refine wp_skip ?_
        show Code.wp _ _ _ _ _
        refine wp_seq ?_
        refine deedL [.eq 2 (.int .i64 3), .w (Below w10.heap.size w10)] 9 [[]] [] [0, 1] hM hN hD (by kernel_rfl) ⟨⟨Below.refl _ _, below_drew (Below.refl _ _)⟩, trivial⟩ ⟨fun _ _ hb h => below_step h hb, trivial⟩ (fun hgrow => ⟨fun _ _ _ => rv rfl (x_assign rfl rfl) rfl, trivial⟩) ?_
        clear s3 s6
        clear hN hD
        rintro a13 w13 hN hD ⟨s2, hGR, -⟩
        replace HB := below_step HB hGR
        clear hGR
        show Code.wp _ _ _ _ _
        refine wp_ret ?_
        refine bodyPost_ret (results_single rfl (vtmp s2 .nil)) hD ?_
        exact ⟨by simp only [sthing, cd4, cd7, cd11, if_true, if_false, Bool.false_eq_true], HB⟩
/-- All that an operation names stands in the log, its stamp below the operation's. -/
def Causes (os : List Op) (vs : List Int) (o : Op) : Prop := ∀ a : Int, 0 ≤ a → a < 16 → gi o.deps a ≤ gi vs a ∧ (0 < gi o.deps a → lessT (go_ os (find os a (gi o.deps a))).time (go_ os (find os a (gi o.deps a))).actor o.time o.actor = true)
noncomputable def causes (os : List Op) (vs : List Int) (o : Op) : Bool := by classical exact decide (Causes os vs o)
theorem causes_true {os : List Op} {vs : List Int} {o : Op} (h : Causes os vs o) : causes os vs o = true := by simp [causes, h]
theorem causes_false {os : List Op} {vs : List Int} {o : Op} (h : ¬ Causes os vs o) : causes os vs o = false := by simp [causes, h]
theorem causes_iff {os : List Op} {vs : List Int} {o : Op} : causes os vs o = true ↔ Causes os vs o := by simp [causes]
set_option maxHeartbeats 2000000 in
theorem sCauses_calls (A : Option Addr) (os : List Op) (D : Nat → Option Addr) (C : Nat → Nat) (c : Nat) (AV : Option Addr) (vs : List Int) (cv : Nat) (o : Op) (Ao : Option Addr) (co : Nat) (w : World) (HR : RO w A os D C) (HV : RI w AV vs) (HO : RI w Ao o.deps) (HL : os.length ≤ 4096) (hvl : vs.length = 16) (hdl : o.deps.length = 16) (HF : ∀ a n : Int, 0 ≤ a → a < 16 → 0 < n → n ≤ gi vs a → 0 ≤ find os a n ∧ find os a n < os.length) : Calls Try.prog 85 #[.slice A os.length c, .agg #[Value.slice AV 16 cv], .agg (opc o Ao co).toArray] w fun e w' => e = .returned (.bool (causes os vs o)) ∧ Below w.heap.size w w' := by
  refine calls_of_wp Try.func85 rfl ?_
  refine enter_ (N := 42) rfl ?_
  rintro a0 hN hD ⟨s0, s1, s2, -⟩
  have HB : Below w.heap.size w w := Below.refl _ _
  refine wp_seq ?_
  refine deedL [.s1 4 (NewB w.heap.size [.slice AV 16 cv] 41), .s1 5 (NewB w.heap.size (opc o Ao co) 67), .eq 6 (.bool false), .eq 0 (.slice A os.length c), .eq 1 (.agg #[Value.slice AV 16 cv]), .eq 2 (.agg (opc o Ao co).toArray), .w (Below w.heap.size w)] 42 [[6, 4], [6, 5], []] [] [0, 1, 3, 4, 5, 6] hM hN hD (by kernel_rfl) ⟨s0, s1, s2, ⟨Below.refl _ _, below_drew (Below.refl _ _)⟩, trivial⟩ ⟨fun _ _ _ hb h => h.grow hb, fun _ _ _ hb h => h.grow hb, fun _ _ hb h => below_step h hb, trivial⟩ (fun hgrow => ⟨fun _ _ h => rbox hgrow rfl (x_box rfl h.2.1) h.1.size (fun _ _ z => z),
    fun _ _ h => rbox hgrow rfl (x_box rfl h.2.1) h.1.size (fun _ _ z => z),
    fun _ _ _ => rv rfl (x_assign rfl rfl) rfl, trivial⟩) ?_
  clear s0 s1 s2
  clear hN hD
  rintro a1 w1 hN hD ⟨⟨g4, s4, lg4, HBX4⟩, ⟨g5, s5, lg5, HBX5⟩, s0, s1, s2, hGR, -⟩
  replace HB := below_step HB hGR
  clear hGR
  show Code.wp _ _ _ _ _
  refine wp_seq ?_
  refine wp_seq ?_
  refine deedL [.eq 7 (.int .i64 0), .eq 0 (.slice A os.length c), .eq 4 (.pointer (some ⟨g4, 0, none⟩)), .eq 5 (.pointer (some ⟨g5, 0, none⟩)), .w (Below w1.heap.size w1)] 42 [[]] [] [0, 1, 2, 3, 4] hM hN hD (by kernel_rfl) ⟨s0, s4, s5, ⟨Below.refl _ _, below_drew (Below.refl _ _)⟩, trivial⟩ ⟨fun _ _ hb h => below_step h hb, trivial⟩ (fun hgrow => ⟨fun _ _ _ => rv rfl (x_assign rfl rfl) rfl, trivial⟩) ?_
  clear s0 s1 s2 s4 s5
  clear hN hD
  rintro a2 w2 hN hD ⟨s7, s0, s4, s5, hGR, -⟩
  replace HB := below_step HB hGR
  replace HBX4 := blk_below HBX4 hGR
  replace HBX5 := blk_below HBX5 hGR
  clear hGR
  show Code.wp _ _ _ _ _
  refine wp_block ?_
  refine wp_loopN (fun n_ q_ w_ => ∃ (i : Int), (q_.tmps.size = 42) ∧ (q_.defers = []) ∧ (sl q_ 0 = .slice A os.length c) ∧ (sl q_ 4 = .pointer (some ⟨g4, 0, none⟩)) ∧ (sl q_ 5 = .pointer (some ⟨g5, 0, none⟩)) ∧ (sl q_ 7 = .int .i64 i) ∧ (Below w.heap.size w w_) ∧ (w_.heap[g4]? = some (.cells ([.slice AV 16 cv]).toArray 41 (0, 0))) ∧ (w_.heap[g5]? = some (.cells (opc o Ao co).toArray 67 (0, 0))) ∧ (0 ≤ i) ∧ (i ≤ 16) ∧ (∀ a : Int, 0 ≤ a → a < i → gi o.deps a ≤ gi vs a ∧ (0 < gi o.deps a → lessT (go_ os (find os a (gi o.deps a))).time (go_ os (find os a (gi o.deps a))).actor o.time o.actor = true)) ∧ (n_ = (16 - i).toNat)) ((fun (i : Int) => (16 - i).toNat) 0) ?_ ?_
  · exact ⟨0, hN, hD, s0, s4, s5, s7, HB, HBX4, HBX5, (by omega), (by omega), (by intro j h0 h1; omega), rfl⟩
  clear s0 s4 s5 s7 HB HBX4 HBX5 hN hD
  rintro n_3 a3 w3 ⟨i, hN, hD, s0, s4, s5, s7, HB, HBX4, HBX5, hi0, hi1, hi, hmeas⟩
  refine wp_seq ?_
  refine wp_seq ?_
  refine deedL [.eq 9 (.int .i64 i), .eq 10 (.bool (decide (i < 16))), .eq 0 (.slice A os.length c), .eq 4 (.pointer (some ⟨g4, 0, none⟩)), .eq 5 (.pointer (some ⟨g5, 0, none⟩)), .eq 7 (.int .i64 i), .w (Below w3.heap.size w3)] 42 [[5], [0]] [] [1, 2, 3, 4, 5, 6] hM hN hD (by kernel_rfl) ⟨s0, s4, s5, s7, ⟨Below.refl _ _, below_drew (Below.refl _ _)⟩, trivial⟩ ⟨fun _ _ hb h => below_step h hb, trivial⟩ (fun hgrow => ⟨fun _ _ h => rv rfl (x_move rfl h.1) rfl,
    fun _ _ h => rv rfl (x_lss rfl h.1 rfl) rfl, trivial⟩) ?_
  clear s0 s4 s5 s7
  clear hN hD
  rintro a4 w4 hN hD ⟨s10, s0, s4, s5, s7, hGR, -⟩
  replace HB := below_step HB hGR
  replace HBX4 := blk_below HBX4 hGR
  replace HBX5 := blk_below HBX5 hGR
  clear hGR
  show Code.wp _ _ _ _ _
  refine wp_cond (t := decide (i < 16)) s10 ?_
  rcases Bool.eq_false_or_eq_true (decide (i < 16)) with cd5 | cd5
  · rw [cd5]
    show Code.wp _ _ _ _ _
    have pd5 := of_decide_eq_true cd5
    refine wp_skip ?_
    show Code.wp _ _ _ _ _
    refine wp_seq ?_
    refine wp_block ?_
    refine wp_seq ?_
    refine deedL [.eq 13 (.pointer (some ⟨g5, 3, none⟩)), .eq 14 (.pointer (some ⟨g5, 3, none⟩)), .eq 15 (.slice Ao o.deps.length co), .eq 16 (.int .i64 i), .eq 17 (.pointer (some ((adr Ao).add (i.toNat * 1)))), .eq 18 (.int .i64 (gi o.deps i)), .eq 8 (.int .i64 (gi o.deps i)), .eq 0 (.slice A os.length c), .eq 4 (.pointer (some ⟨g4, 0, none⟩)), .eq 5 (.pointer (some ⟨g5, 0, none⟩)), .eq 7 (.int .i64 i), .w (Below w4.heap.size w4)] 42 [[9], [0], [1, 11], [10], [2, 3], [4, 11], [5]] [] [6, 7, 8, 9, 10, 11] hM hN hD (by kernel_rfl) ⟨s0, s4, s5, s7, ⟨Below.refl _ _, below_drew (Below.refl _ _)⟩, trivial⟩ ⟨fun _ _ hb h => below_step h hb, trivial⟩ (fun hgrow => ⟨fun _ _ h => rv rfl (x_field rfl h.1 Try.underlying67 rfl sz41 (by decide) rfl) rfl,
      fun _ _ h => rv rfl (x_field rfl h.1 Try.underlying41 rfl sz24 (by decide) rfl) rfl,
      fun _ _ h => rv rfl (x_load1 rfl h.1 Try.underlying24 rfl (blk_one (L := opc o Ao co) (blk_below HBX5 h.2.1) 3 rfl)) rfl,
      fun _ _ h => rv rfl (x_move rfl h.1) rfl,
      fun _ _ h => rv rfl (x_index_at rfl h.1 h.2.1 Try.underlying24 sz3 (by omega) (by omega) (RI.ad HO i (by omega) (by omega))) rfl,
      fun _ _ h => rv rfl (x_load1 rfl h.1 Try.underlying3 rfl (RI.at_ HO (below_step HB h.2.1) (by omega) (by omega))) rfl,
      fun _ _ h => rv rfl (x_assign rfl h.1) rfl, trivial⟩) ?_
    clear s0 s4 s5 s7 s10
    clear hN hD
    rintro a6 w6 hN hD ⟨s8, s0, s4, s5, s7, hGR, -⟩
    replace HB := below_step HB hGR
    replace HBX4 := blk_below HBX4 hGR
    replace HBX5 := blk_below HBX5 hGR
    clear hGR
    show Code.wp _ _ _ _ _
    refine wp_seq ?_
    refine wp_seq ?_
    refine deedL [.eq 19 (.int .i64 (gi o.deps i)), .eq 20 (.pointer (some ⟨g4, 0, none⟩)), .eq 21 (.slice AV 16 cv), .eq 22 (.int .i64 i), .eq 23 (.pointer (some ((adr AV).add (i.toNat * 1)))), .eq 24 (.int .i64 (gi vs i)), .eq 25 (.bool (decide (gi vs i < gi o.deps i))), .eq 0 (.slice A os.length c), .eq 4 (.pointer (some ⟨g4, 0, none⟩)), .eq 5 (.pointer (some ⟨g5, 0, none⟩)), .eq 7 (.int .i64 i), .eq 8 (.int .i64 (gi o.deps i)), .w (Below w6.heap.size w6)] 42 [[11], [8], [1, 12], [10], [2, 3], [4, 12], [0, 5]] [] [6, 7, 8, 9, 10, 11, 12] hM hN hD (by kernel_rfl) ⟨s0, s4, s5, s7, s8, ⟨Below.refl _ _, below_drew (Below.refl _ _)⟩, trivial⟩ ⟨fun _ _ hb h => below_step h hb, trivial⟩ (fun hgrow => ⟨fun _ _ h => rv rfl (x_move rfl h.1) rfl,
      fun _ _ h => rv rfl (x_field rfl h.1 Try.underlying41 rfl sz24 (by decide) rfl) rfl,
      fun _ _ h => rv rfl (x_load1 rfl h.1 Try.underlying24 rfl (blk_one (L := [.slice AV 16 cv]) (blk_below HBX4 h.2.1) 0 rfl)) rfl,
      fun _ _ h => rv rfl (x_move rfl h.1) rfl,
      fun _ _ h => rv rfl (x_index_at rfl h.1 h.2.1 Try.underlying24 sz3 (by omega) (by omega) (RI.ad HV i (by omega) (by omega))) rfl,
      fun _ _ h => rv rfl (x_load1 rfl h.1 Try.underlying3 rfl (RI.at_ HV (below_step HB h.2.1) (by omega) (by omega))) rfl,
      fun _ _ h => rv rfl (x_gtr rfl h.1 h.2.1) rfl, trivial⟩) ?_
    clear s0 s4 s5 s7 s8
    clear hN hD
    rintro a7 w7 hN hD ⟨s25, s0, s4, s5, s7, s8, hGR, -⟩
    replace HB := below_step HB hGR
    replace HBX4 := blk_below HBX4 hGR
    replace HBX5 := blk_below HBX5 hGR
    clear hGR
    show Code.wp _ _ _ _ _
    refine wp_cond (t := decide (gi vs i < gi o.deps i)) s25 ?_
    rcases Bool.eq_false_or_eq_true (decide (gi vs i < gi o.deps i)) with cd8 | cd8
    · rw [cd8]
      show Code.wp _ _ _ _ _
      have pd8 := of_decide_eq_true cd8
      refine wp_seq ?_
      refine deedL [.eq 6 (.bool false), .w (Below w7.heap.size w7)] 42 [[]] [] [0, 1] hM hN hD (by kernel_rfl) ⟨⟨Below.refl _ _, below_drew (Below.refl _ _)⟩, trivial⟩ ⟨fun _ _ hb h => below_step h hb, trivial⟩ (fun hgrow => ⟨fun _ _ _ => rv rfl (x_assign rfl rfl) rfl, trivial⟩) ?_
      clear s0 s4 s5 s7 s8 s25
      clear hN hD
      rintro a9 w9 hN hD ⟨s6, hGR, -⟩
      replace HB := below_step HB hGR
      replace HBX4 := blk_below HBX4 hGR
      replace HBX5 := blk_below HBX5 hGR
      clear hGR
      show Code.wp _ _ _ _ _
      refine wp_ret (then_ret (blk_ret (then_ret (then_ret (blk_ret (then_ret ?_))))))
      refine bodyPost_ret (results_single rfl (vtmp s6 .nil)) hD ?_
      exact ⟨by rw [causes_false (fun h => by have := (h i hi0 (by omega)).1; omega)], HB⟩
    · rw [cd8]
      show Code.wp _ _ _ _ _
      have pd8 := of_decide_eq_false cd8
      refine wp_skip ?_
      show Code.wp _ _ _ _ _
      refine wp_seq ?_
      refine deedL (.eq 26 (.int .i64 (gi o.deps i)) :: .eq 27 (.bool (decide (0 < gi o.deps i))) :: .eq 28 (.bool (decide (0 < gi o.deps i))) :: .gv (((decide (0 < gi o.deps i)) == true)) 29 (.slice A os.length c) :: .gv (((decide (0 < gi o.deps i)) == true)) 30 (.slice A os.length c) :: .gv (((decide (0 < gi o.deps i)) == true)) 31 (.int .i64 i) :: .gv (((decide (0 < gi o.deps i)) == true)) 32 (.int .i64 (gi o.deps i)) :: .gv (((decide (0 < gi o.deps i)) == true)) 33 (.int .i64 (find os i (gi o.deps i))) :: .gv (((decide (0 < gi o.deps i)) == true)) 34 (.pointer (some ((adr A).add ((find os i (gi o.deps i)).toNat * 12)))) :: .gv (((decide (0 < gi o.deps i)) == true)) 35 (.agg (opc (go_ os (find os i (gi o.deps i))) (D (find os i (gi o.deps i)).toNat) (C (find os i (gi o.deps i)).toNat)).toArray) :: .gv (((decide (0 < gi o.deps i)) == true)) 36 (.agg #[Value.int .i64 ((go_ os (find os i (gi o.deps i))).time), Value.int .i64 ((go_ os (find os i (gi o.deps i))).actor)]) :: .gv (((decide (0 < gi o.deps i)) == true)) 37 (.agg (opc o Ao co).toArray) :: .gv (((decide (0 < gi o.deps i)) == true)) 38 (.agg #[Value.int .i64 o.time, Value.int .i64 o.actor]) :: .gv (((decide (0 < gi o.deps i)) == true)) 39 (.bool (lessT ((go_ os (find os i (gi o.deps i))).time) ((go_ os (find os i (gi o.deps i))).actor) o.time o.actor)) :: .gv (((decide (0 < gi o.deps i)) == true)) 40 (.bool (!(lessT ((go_ os (find os i (gi o.deps i))).time) ((go_ os (find os i (gi o.deps i))).actor) o.time o.actor))) :: .eq 41 (.bool ((decide (0 < gi o.deps i)) && (!(lessT ((go_ os (find os i (gi o.deps i))).time) ((go_ os (find os i (gi o.deps i))).actor) o.time o.actor)))) :: .eq 0 (.slice A os.length c) :: .eq 4 (.pointer (some ⟨g4, 0, none⟩)) :: .eq 5 (.pointer (some ⟨g5, 0, none⟩)) :: .eq 7 (.int .i64 i) :: .eq 8 (.int .i64 (gi o.deps i)) :: .w (Below w7.heap.size w7) :: []) 42 ([20] :: [0] :: [1] :: [2, 16] :: [2, 16] :: [2, 19] :: [2, 20] :: [2, 4, 5, 6, 21] :: [2, 3, 7] :: [2, 8, 21] :: [2, 9] :: [2, 18, 21] :: [2, 11] :: [2, 10, 12] :: [2, 13] :: [2, 14] :: []) [] [15, 16, 17, 18, 19, 20, 21] hM hN hD (by kernel_rfl) ⟨s0, s4, s5, s7, s8, ⟨Below.refl _ _, below_drew (Below.refl _ _)⟩, trivial⟩ ⟨fun _ _ hb h => below_step h hb, trivial⟩ (fun hgrow => ⟨fun _ _ h => rv rfl (x_move rfl h.1) rfl,
        fun _ _ h => rv rfl (x_gtr rfl h.1 rfl) rfl,
        fun _ _ h => rv rfl (x_move rfl h.1) rfl,
        fun _ _ h => rb rfl rfl h.1 (fun hgt => x_move rfl h.2.1) (fun _ z => z),
        fun _ _ h => rb rfl rfl h.1 (fun hgt => x_move rfl h.2.1) (fun _ z => z),
        fun _ _ h => rb rfl rfl h.1 (fun hgt => x_move rfl h.2.1) (fun _ z => z),
        fun _ _ h => rb rfl rfl h.1 (fun hgt => x_move rfl h.2.1) (fun _ z => z),
        fun _ _ h => rcb hgrow rfl rfl h.1 Try.func83 (by kernel_rfl) rfl rfl (fun hgt => args3 (h.2.1.1 hgt) (h.2.2.1.1 hgt) (h.2.2.2.1.1 hgt)) (fun hgt => sFind_calls A os D C c i (gi o.deps i) _ (RO.below HR (below_step HB h.2.2.2.2.1)) HL) (fun _ _ _ h => h) (fun _ _ z => z),
        fun _ _ h => rb rfl rfl h.1 (fun hgt => x_index_at rfl (h.2.1.1 hgt) (h.2.2.1.1 hgt) Try.underlying27 sz67 (HF i (gi o.deps i) hi0 (by omega) (by simp at hgt; omega) (by omega)).1 (HF i (gi o.deps i) hi0 (by omega) (by simp at hgt; omega) (by omega)).2 (RO.ad HR (find os i (gi o.deps i)) (HF i (gi o.deps i) hi0 (by omega) (by simp at hgt; omega) (by omega)).1 (HF i (gi o.deps i) hi0 (by omega) (by simp at hgt; omega) (by omega)).2)) (fun _ z => z),
        fun _ _ h => rb rfl rfl h.1 (fun hgt => x_loadS rfl (h.2.1.1 hgt) Try.underlying67 (opc (go_ os (find os i (gi o.deps i))) (D (find os i (gi o.deps i)).toNat) (C (find os i (gi o.deps i)).toNat)) sz67 (RO.cells HR (below_step HB h.2.2.1) (HF i (gi o.deps i) hi0 (by omega) (by simp at hgt; omega) (by omega)).1 (HF i (gi o.deps i) hi0 (by omega) (by simp at hgt; omega) (by omega)).2)) (fun _ z => z),
        fun _ _ h => rcb hgrow rfl rfl h.1 Try.func105 (by kernel_rfl) rfl rfl (fun hgt => args1 (h.2.1.1 hgt)) (fun hgt => sStamp_calls (go_ os (find os i (gi o.deps i))) (D (find os i (gi o.deps i)).toNat) (C (find os i (gi o.deps i)).toNat) _) (fun _ _ _ h => h) (fun _ _ z => z),
        fun _ _ h => rb rfl rfl h.1 (fun hgt => x_loadS rfl h.2.1 Try.underlying67 (opc o Ao co) sz67 (blk_list (L := opc o Ao co) (blk_below HBX5 h.2.2.1) 0 rfl)) (fun _ z => z),
        fun _ _ h => rcb hgrow rfl rfl h.1 Try.func105 (by kernel_rfl) rfl rfl (fun hgt => args1 (h.2.1.1 hgt)) (fun hgt => sStamp_calls o Ao co _) (fun _ _ _ h => h) (fun _ _ z => z),
        fun _ _ h => rcb hgrow rfl rfl h.1 Try.func108 (by kernel_rfl) rfl rfl (fun hgt => args2 (h.2.1.1 hgt) (h.2.2.1.1 hgt)) (fun hgt => sLess_calls ((go_ os (find os i (gi o.deps i))).time) ((go_ os (find os i (gi o.deps i))).actor) o.time o.actor _) (fun _ _ _ h => h) (fun _ _ z => z),
        fun _ _ h => rb rfl rfl h.1 (fun hgt => x_not rfl (h.2.1.1 hgt)) (fun _ z => z),
        fun _ _ h => rv rfl (x_and rfl rfl h.1 (fun hc => h.2.1.1 (beq_iff_eq.2 hc))) rfl, trivial⟩) ?_
      clear s0 s4 s5 s7 s8 s25
      clear hN hD
      rintro a10 w10 hN hD ⟨s41, s0, s4, s5, s7, s8, hGR, -⟩
      replace HB := below_step HB hGR
      replace HBX4 := blk_below HBX4 hGR
      replace HBX5 := blk_below HBX5 hGR
      clear hGR
      show Code.wp _ _ _ _ _
      refine wp_cond (t := (decide (0 < gi o.deps i)) && (!(lessT ((go_ os (find os i (gi o.deps i))).time) ((go_ os (find os i (gi o.deps i))).actor) o.time o.actor))) s41 ?_
      rcases Bool.eq_false_or_eq_true ((decide (0 < gi o.deps i)) && (!(lessT ((go_ os (find os i (gi o.deps i))).time) ((go_ os (find os i (gi o.deps i))).actor) o.time o.actor))) with cd11 | cd11
      · rw [cd11]
        show Code.wp _ _ _ _ _
        have hs := cd11
        refine wp_seq ?_
        refine deedL [.eq 6 (.bool false), .w (Below w10.heap.size w10)] 42 [[]] [] [0, 1] hM hN hD (by kernel_rfl) ⟨⟨Below.refl _ _, below_drew (Below.refl _ _)⟩, trivial⟩ ⟨fun _ _ hb h => below_step h hb, trivial⟩ (fun hgrow => ⟨fun _ _ _ => rv rfl (x_assign rfl rfl) rfl, trivial⟩) ?_
        clear s0 s4 s5 s7 s8 s41
        clear hN hD
        rintro a12 w12 hN hD ⟨s6, hGR, -⟩
        replace HB := below_step HB hGR
        replace HBX4 := blk_below HBX4 hGR
        replace HBX5 := blk_below HBX5 hGR
        clear hGR
        show Code.wp _ _ _ _ _
        refine wp_ret (blk_ret (then_ret (then_ret (blk_ret (then_ret ?_)))))
        refine bodyPost_ret (results_single rfl (vtmp s6 .nil)) hD ?_
        exact ⟨by rw [causes_false (fun h => by have := (h i hi0 (by omega)).2; simp at hs; simp [hs.2] at this; omega)], HB⟩
      · rw [cd11]
        show Code.wp _ _ _ _ _
        have hs : 0 < gi o.deps i → lessT (go_ os (find os i (gi o.deps i))).time (go_ os (find os i (gi o.deps i))).actor o.time o.actor = true := by have := cd11; simp at this; exact this
        refine wp_skip ?_
        show Code.wp _ _ _ _ _
        refine deedL [.eq 11 (.int .i64 i), .eq 12 (.int .i64 (i + 1)), .eq 7 (.int .i64 (i + 1)), .eq 0 (.slice A os.length c), .eq 4 (.pointer (some ⟨g4, 0, none⟩)), .eq 5 (.pointer (some ⟨g5, 0, none⟩)), .eq 7 (.int .i64 i), .w (Below w10.heap.size w10)] 42 [[6], [0], [1]] [[], [], [6]] [2, 3, 4, 5, 7] hM hN hD (by kernel_rfl) ⟨s0, s4, s5, s7, ⟨Below.refl _ _, below_drew (Below.refl _ _)⟩, trivial⟩ ⟨fun _ _ hb h => below_step h hb, trivial⟩ (fun hgrow => ⟨fun _ _ h => rv rfl (x_move rfl h.1) rfl,
          fun _ _ h => rv rfl (x_add' rfl h.1 rfl (by omega)) rfl,
          fun _ _ h => rv rfl (x_assign rfl h.1) rfl, trivial⟩) ?_
        clear s0 s4 s5 s7 s8 s41
        clear hN hD
        rintro a13 w13 hN hD ⟨s7, s0, s4, s5, hGR, -⟩
        replace HB := below_step HB hGR
        replace HBX4 := blk_below HBX4 hGR
        replace HBX5 := blk_below HBX5 hGR
        clear hGR
        show ∃ m, m < n_3 ∧ _
        exact ⟨_, (by omega), ⟨(i + 1), hN, hD, s0, s4, s5, s7, HB, HBX4, HBX5, (by omega), (by omega), (by intro j h0 h1; by_cases e : j = i; (subst e; exact ⟨by omega, hs⟩); exact hi j h0 (by omega)), rfl⟩⟩
  · rw [cd5]
    show Code.wp _ _ _ _ _
    have pd5 := of_decide_eq_false cd5
    refine wp_exit (then_exit (then_exit (at_exit ?_)))
    show Code.wp _ _ _ _ _
    refine wp_seq ?_
    refine deedL [.eq 6 (.bool true), .w (Below w4.heap.size w4)] 42 [[]] [] [0, 1] hM hN hD (by kernel_rfl) ⟨⟨Below.refl _ _, below_drew (Below.refl _ _)⟩, trivial⟩ ⟨fun _ _ hb h => below_step h hb, trivial⟩ (fun hgrow => ⟨fun _ _ _ => rv rfl (x_assign rfl rfl) rfl, trivial⟩) ?_
    clear s0 s4 s5 s7 s10
    clear hN hD
    rintro a14 w14 hN hD ⟨s6, hGR, -⟩
    replace HB := below_step HB hGR
    replace HBX4 := blk_below HBX4 hGR
    replace HBX5 := blk_below HBX5 hGR
    clear hGR
    show Code.wp _ _ _ _ _
    refine wp_ret ?_
    refine bodyPost_ret (results_single rfl (vtmp s6 .nil)) hD ?_
    exact ⟨by rw [causes_true (fun a h0 h1 => hi a h0 (by omega))], HB⟩
end Go.Proofs.Ytideafkiaipnoaa.Q
