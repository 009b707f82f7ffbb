/- Functions walked. -/
import Derived.Test.YtideafkiaipnoaaOrder
namespace Go.Proofs.Ytideafkiaipnoaa.Q
open Go Go.RowKit Go.Proofs.YtideafkiaipnoaaW.PrintWords Go.Proofs.YtideafkiaipnoaaW.PrintLast Go.Proofs.Ytideafkiaipnoaa.Deed
set_option maxRecDepth 100000
/-- Operation i does not stand where it must. -/
def sBad (os : List Op) (i : Int) : Bool := ((((i == 0) || ((go_ os i).actor != (go_ os (i - 1)).actor))) && (((go_ os i).seq != 1) || ((decide (0 < i)) && (decide ((go_ os i).actor < (go_ os (i - 1)).actor))))) || ((!((i == 0) || ((go_ os i).actor != (go_ os (i - 1)).actor))) && ((go_ os i).seq != ((go_ os (i - 1)).seq + 1)))
def Steps (os : List Op) : Prop := ∀ i : Int, 0 ≤ i → i < os.length → iOp (go_ os i) = true ∧ sBad os i = false
theorem Steps.actors {os : List Op} (h : ∀ i : Int, 0 ≤ i → i < os.length → iOp (go_ os i) = true) : Actors os := by
  intro o ho
  obtain ⟨k, hk, e⟩ := List.getElem_of_mem ho
  have e2 : go_ os (k : Int) = o := by simp [go_, List.getD_eq_getElem?_getD, hk, e]
  have := iOp_fine (e2 ▸ h k (by omega) (by omega))
  exact ⟨this.a0, this.a1⟩
theorem Steps.sorted {os : List Op} (h : Steps os) : Sorted os := by
  intro i h0 h1
  rcases Int.lt_or_le (go_ os i).actor (go_ os (i - 1)).actor with e | e
  · exfalso
    have hb := (h i (by omega) h1).2
    have : sBad os i = true := by
      unfold sBad
      simp
      exact .inl ⟨.inr (by omega), .inr ⟨h0, e⟩⟩
    rw [this] at hb
    cases hb
  · exact e
/-- In a log in order the n-th of an actor is there. -/
theorem find_ok {os : List Op} (h : Steps os) {a n : Int} (hn : 0 < n) (hv : n ≤ num os a) : 0 ≤ find os a n ∧ find os a n < os.length := ⟨(find_onth h.sorted hn hv).1, (find_onth h.sorted hn hv).2.1⟩
def SKind (os : List Op) (i : Int) : Prop := ¬ (gi (tf (fun o => sthing o.kind) (os.take i.toNat)) (go_ os i).obj ≠ 0 ∧ gi (tf (fun o => sthing o.kind) (os.take i.toNat)) (go_ os i).obj ≠ sthing (go_ os i).kind)
def SLog (os : List Op) : Prop := os.length ≤ 1024 ∧ Steps os ∧ ∀ i : Int, 0 ≤ i → i < os.length → causes os (cnt os) (go_ os i) = true ∧ SKind os i
noncomputable def sLogOK (os : List Op) : Bool := by classical exact decide (SLog os)
theorem sLogOK_true {os : List Op} (h : SLog os) : sLogOK os = true := by simp [sLogOK, h]
theorem sLogOK_false {os : List Op} (h : ¬ SLog os) : sLogOK os = false := by simp [sLogOK, h]
theorem sLogOK_iff {os : List Op} : sLogOK os = true ↔ SLog os := by simp [sLogOK]
set_option maxHeartbeats 2000000 in
theorem sLog_calls (A : Option Addr) (os : List Op) (D : Nat → Option Addr) (C : Nat → Nat) (c : Nat) (w : World) (HR : RO w A os D C) : Calls Try.prog 47 #[.slice A os.length c] w fun e w' => e = .returned (.bool (sLogOK os)) ∧ Below w.heap.size w w' := by
  refine calls_of_wp Try.func47 rfl ?_
  refine enter_ (N := 138) rfl ?_
  rintro a0 hN hD ⟨s0, -⟩
  have HB : Below w.heap.size w w := Below.refl _ _
  refine wp_seq ?_
  refine deedL [.eq 2 (.bool false), .eq 0 (.slice A os.length c), .w (Below w.heap.size w)] 138 [[]] [] [1, 2] hM hN hD (by kernel_rfl) ⟨s0, ⟨Below.refl _ _, below_drew (Below.refl _ _)⟩, trivial⟩ ⟨fun _ _ hb h => below_step h hb, trivial⟩ (fun hgrow => ⟨fun _ _ _ => rv rfl (x_assign rfl rfl) rfl, trivial⟩) ?_
  clear s0
  clear hN hD
  rintro a1 w1 hN hD ⟨s0, hGR, -⟩
  replace HB := below_step HB hGR
  clear hGR
  show Code.wp _ _ _ _ _
  refine wp_seq ?_
  refine wp_seq ?_
  refine deedL [.eq 9 (.slice A os.length c), .eq 10 (.int .i64 (os.length : Int)), .eq 11 (.bool (decide (1024 < (os.length : Int)))), .eq 0 (.slice A os.length c), .w (Below w1.heap.size w1)] 138 [[3], [0], [1]] [] [2, 3, 4] hM hN hD (by kernel_rfl) ⟨s0, ⟨Below.refl _ _, below_drew (Below.refl _ _)⟩, trivial⟩ ⟨fun _ _ hb h => below_step h hb, trivial⟩ (fun hgrow => ⟨fun _ _ h => rv rfl (x_move rfl h.1) rfl,
    fun _ _ h => rv rfl (x_len_slice rfl Try.underlying27 h.1) rfl,
    fun _ _ h => rv rfl (x_gtr rfl h.1 rfl) rfl, trivial⟩) ?_
  clear s0
  clear hN hD
  rintro a2 w2 hN hD ⟨s11, s0, hGR, -⟩
  replace HB := below_step HB hGR
  clear hGR
  show Code.wp _ _ _ _ _
  refine wp_cond (t := decide (1024 < (os.length : Int))) s11 ?_
  rcases Bool.eq_false_or_eq_true (decide (1024 < (os.length : Int))) with cd3 | cd3
  · rw [cd3]
    show Code.wp _ _ _ _ _
    have pd3 := of_decide_eq_true cd3
    refine wp_seq ?_
    refine deedL [.eq 2 (.bool false), .w (Below w2.heap.size w2)] 138 [[]] [] [0, 1] hM hN hD (by kernel_rfl) ⟨⟨Below.refl _ _, below_drew (Below.refl _ _)⟩, trivial⟩ ⟨fun _ _ hb h => below_step h hb, trivial⟩ (fun hgrow => ⟨fun _ _ _ => rv rfl (x_assign rfl rfl) rfl, trivial⟩) ?_
    clear s0 s11
    clear hN hD
    rintro a4 w4 hN hD ⟨s2, hGR, -⟩
    replace HB := below_step HB hGR
    clear hGR
    show Code.wp _ _ _ _ _
    refine wp_ret (then_ret ?_)
    refine bodyPost_ret (results_single rfl (vtmp s2 .nil)) hD ?_
    exact ⟨by rw [sLogOK_false (fun h => by have := h.1; omega)], HB⟩
  · rw [cd3]
    show Code.wp _ _ _ _ _
    have pd3 := of_decide_eq_false cd3
    refine wp_skip ?_
    show Code.wp _ _ _ _ _
    refine wp_seq ?_
    refine wp_seq ?_
    refine deedL [.eq 3 (.int .i64 0), .eq 0 (.slice A os.length c), .w (Below w2.heap.size w2)] 138 [[]] [] [0, 1, 2] hM hN hD (by kernel_rfl) ⟨s0, ⟨Below.refl _ _, below_drew (Below.refl _ _)⟩, trivial⟩ ⟨fun _ _ hb h => below_step h hb, trivial⟩ (fun hgrow => ⟨fun _ _ _ => rv rfl (x_assign rfl rfl) rfl, trivial⟩) ?_
    clear s0 s11
    clear hN hD
    rintro a5 w5 hN hD ⟨s3, s0, hGR, -⟩
    replace HB := below_step HB hGR
    clear hGR
    show Code.wp _ _ _ _ _
    refine wp_block ?_
    refine wp_loopN (fun n_ q_ w_ => ∃ (i : Int), (q_.tmps.size = 138) ∧ (q_.defers = []) ∧ (sl q_ 0 = .slice A os.length c) ∧ (sl q_ 3 = .int .i64 i) ∧ (Below w.heap.size w w_) ∧ (0 ≤ i) ∧ (i ≤ os.length) ∧ (∀ j : Int, 0 ≤ j → j < i → iOp (go_ os j) = true ∧ sBad os j = false) ∧ (n_ = (os.length - i).toNat)) ((fun (i : Int) => (os.length - i).toNat) 0) ?_ ?_
    · exact ⟨0, hN, hD, s0, s3, HB, (by omega), (by omega), (by intro j h0 h1; omega), rfl⟩
    clear s0 s3 HB hN hD
    rintro n_6 a6 w6 ⟨i, hN, hD, s0, s3, HB, hi0, hi1, hi, hmeas⟩
    refine wp_seq ?_
    refine wp_seq ?_
    refine deedL [.eq 12 (.int .i64 i), .eq 13 (.slice A os.length c), .eq 14 (.int .i64 (os.length : Int)), .eq 15 (.bool (decide (i < (os.length : Int)))), .eq 0 (.slice A os.length c), .eq 3 (.int .i64 i), .w (Below w6.heap.size w6)] 138 [[5], [4], [1], [0, 2]] [] [3, 4, 5, 6] hM hN hD (by kernel_rfl) ⟨s0, s3, ⟨Below.refl _ _, below_drew (Below.refl _ _)⟩, trivial⟩ ⟨fun _ _ hb h => below_step h hb, trivial⟩ (fun hgrow => ⟨fun _ _ h => rv rfl (x_move rfl h.1) rfl,
      fun _ _ h => rv rfl (x_move rfl h.1) rfl,
      fun _ _ h => rv rfl (x_len_slice rfl Try.underlying27 h.1) rfl,
      fun _ _ h => rv rfl (x_lss rfl h.1 h.2.1) rfl, trivial⟩) ?_
    clear s0 s3
    clear hN hD
    rintro a7 w7 hN hD ⟨s15, s0, s3, hGR, -⟩
    replace HB := below_step HB hGR
    clear hGR
    show Code.wp _ _ _ _ _
    refine wp_cond (t := decide (i < (os.length : Int))) s15 ?_
    rcases Bool.eq_false_or_eq_true (decide (i < (os.length : Int))) with cd8 | cd8
    · rw [cd8]
      show Code.wp _ _ _ _ _
      have pd8 := of_decide_eq_true cd8
      have hi2 := pd8
      refine wp_skip ?_
      show Code.wp _ _ _ _ _
      refine wp_seq ?_
      refine wp_block ?_
      refine wp_seq ?_
      refine wp_seq ?_
      refine deedL [.eq 18 (.slice A os.length c), .eq 19 (.int .i64 i), .eq 20 (.pointer (some ((adr A).add (i.toNat * 12)))), .eq 21 (.agg (opc (go_ os i) (D i.toNat) (C i.toNat)).toArray), .eq 22 (.bool (sOp (go_ os i))), .eq 23 (.bool (!(sOp (go_ os i)))), .eq 0 (.slice A os.length c), .eq 3 (.int .i64 i), .w (Below w7.heap.size w7)] 138 [[6], [7], [0, 1], [2, 8], [3, 8], [4]] [] [5, 6, 7, 8] hM hN hD (by kernel_rfl) ⟨s0, s3, ⟨Below.refl _ _, below_drew (Below.refl _ _)⟩, trivial⟩ ⟨fun _ _ hb h => below_step h hb, trivial⟩ (fun hgrow => ⟨fun _ _ h => rv rfl (x_move rfl h.1) rfl,
        fun _ _ h => rv rfl (x_move rfl h.1) rfl,
        fun _ _ h => rv rfl (x_index_at rfl h.1 h.2.1 Try.underlying27 sz67 (by omega) (by omega) (RO.ad HR i (by omega) (by omega))) rfl,
        fun _ _ h => rv rfl (x_loadS rfl h.1 Try.underlying67 (opc (go_ os i) (D i.toNat) (C i.toNat)) sz67 (RO.cells HR (below_step HB h.2.1) (by omega) (by omega))) rfl,
        fun _ _ h => rc hgrow rfl Try.func82 (by kernel_rfl) rfl rfl (args1 h.1) (sOp_calls (go_ os i) _ (D i.toNat) (C i.toNat) (RI.below (RO.deps HR (by omega) (by omega)) (below_step HB h.2.1))) (fun _ _ h => ⟨_, h.1, h.2, rfl⟩),
        fun _ _ h => rv rfl (x_not rfl h.1) rfl, trivial⟩) ?_
      clear s0 s3 s15
      clear hN hD
      rintro a9 w9 hN hD ⟨s23, s0, s3, hGR, -⟩
      replace HB := below_step HB hGR
      clear hGR
      show Code.wp _ _ _ _ _
      refine wp_cond (t := !(sOp (go_ os i))) s23 ?_
      rcases Bool.eq_false_or_eq_true (!(sOp (go_ os i))) with cd10 | cd10
      · rw [cd10]
        show Code.wp _ _ _ _ _
        have pd10 := cd10
        simp at pd10
        have ho := cd10
        refine wp_seq ?_
        refine deedL [.eq 2 (.bool false), .w (Below w9.heap.size w9)] 138 [[]] [] [0, 1] hM hN hD (by kernel_rfl) ⟨⟨Below.refl _ _, below_drew (Below.refl _ _)⟩, trivial⟩ ⟨fun _ _ hb h => below_step h hb, trivial⟩ (fun hgrow => ⟨fun _ _ _ => rv rfl (x_assign rfl rfl) rfl, trivial⟩) ?_
        clear s0 s3 s23
        clear hN hD
        rintro a11 w11 hN hD ⟨s2, hGR, -⟩
        replace HB := below_step HB hGR
        clear hGR
        show Code.wp _ _ _ _ _
        refine wp_ret (then_ret (blk_ret (then_ret (then_ret (blk_ret (then_ret ?_))))))
        refine bodyPost_ret (results_single rfl (vtmp s2 .nil)) hD ?_
        exact ⟨by rw [sLogOK_false (fun h => by have := (h.2.1 i hi0 hi2).1; rw [← sOp_iOp] at this; simp [this] at ho)], HB⟩
      · rw [cd10]
        show Code.wp _ _ _ _ _
        have pd10 := cd10
        simp at pd10
        have ho : iOp (go_ os i) = true := by have := cd10; rw [← sOp_iOp]; simpa using this
        refine wp_skip ?_
        show Code.wp _ _ _ _ _
        refine wp_seq ?_
        refine deedL (.eq 24 (.int .i64 i) :: .eq 25 (.bool (i == 0)) :: .eq 26 (.bool (i == 0)) :: .gv (((i == 0) == false)) 27 (.slice A os.length c) :: .gv (((i == 0) == false)) 28 (.int .i64 i) :: .gv (((i == 0) == false)) 29 (.pointer (some ((adr A).add (i.toNat * 12)))) :: .gv (((i == 0) == false)) 30 (.pointer (some ((adr A).add (i.toNat * 12)))) :: .gv (((i == 0) == false)) 31 (.int .i64 ((go_ os i).actor)) :: .gv (((i == 0) == false)) 32 (.slice A os.length c) :: .gv (((i == 0) == false)) 33 (.int .i64 i) :: .gv (((i == 0) == false)) 34 (.int .i64 (i - 1)) :: .gv (((i == 0) == false)) 35 (.pointer (some ((adr A).add ((i - 1).toNat * 12)))) :: .gv (((i == 0) == false)) 36 (.pointer (some ((adr A).add ((i - 1).toNat * 12)))) :: .gv (((i == 0) == false)) 37 (.int .i64 ((go_ os (i - 1)).actor)) :: .gv (((i == 0) == false)) 38 (.bool (((go_ os i).actor) != ((go_ os (i - 1)).actor))) :: .eq 39 (.bool ((i == 0) || (((go_ os i).actor) != ((go_ os (i - 1)).actor)))) :: .eq 4 (.bool ((i == 0) || (((go_ os i).actor) != ((go_ os (i - 1)).actor)))) :: .eq 0 (.slice A os.length c) :: .eq 3 (.int .i64 i) :: .w (Below w9.heap.size w9) :: []) 138 ([18] :: [0] :: [1] :: [2, 17] :: [2, 18] :: [2, 3, 4] :: [2, 5] :: [2, 6, 19] :: [2, 17] :: [2, 18] :: [2, 9] :: [2, 8, 10] :: [2, 11] :: [2, 12, 19] :: [2, 7, 13] :: [2, 14] :: [15] :: []) [] [16, 17, 18, 19] hM hN hD (by kernel_rfl) ⟨s0, s3, ⟨Below.refl _ _, below_drew (Below.refl _ _)⟩, trivial⟩ ⟨fun _ _ hb h => below_step h hb, trivial⟩ (fun hgrow => ⟨fun _ _ h => rv rfl (x_move rfl h.1) rfl,
          fun _ _ h => rv rfl (x_eql rfl h.1 rfl) rfl,
          fun _ _ h => rv rfl (x_move rfl h.1) rfl,
          fun _ _ h => rb rfl rfl h.1 (fun hgt => x_move rfl h.2.1) (fun _ z => z),
          fun _ _ h => rb rfl rfl h.1 (fun hgt => x_move rfl h.2.1) (fun _ z => z),
          fun _ _ h => rb rfl rfl h.1 (fun hgt => x_index_at rfl (h.2.1.1 hgt) (h.2.2.1.1 hgt) Try.underlying27 sz67 (by simp at hgt; omega) (by simp at hgt; omega) (RO.ad HR i (by simp at hgt; omega) (by simp at hgt; omega))) (fun _ z => z),
          fun _ _ h => rb rfl rfl h.1 (fun hgt => x_field rfl (h.2.1.1 hgt) Try.underlying67 rfl sz3 (by decide) rfl) (fun _ z => z),
          fun _ _ h => rb rfl rfl h.1 (fun hgt => x_load1 rfl (h.2.1.1 hgt) Try.underlying3 rfl (RO.cell0 HR (below_step HB h.2.2.1) (by simp at hgt; omega) (by simp at hgt; omega))) (fun _ z => z),
          fun _ _ h => rb rfl rfl h.1 (fun hgt => x_move rfl h.2.1) (fun _ z => z),
          fun _ _ h => rb rfl rfl h.1 (fun hgt => x_move rfl h.2.1) (fun _ z => z),
          fun _ _ h => rb rfl rfl h.1 (fun hgt => x_sub' rfl (h.2.1.1 hgt) rfl (by simp at hgt; omega)) (fun _ z => z),
          fun _ _ h => rb rfl rfl h.1 (fun hgt => x_index_at rfl (h.2.1.1 hgt) (h.2.2.1.1 hgt) Try.underlying27 sz67 (by simp at hgt; omega) (by simp at hgt; omega) (RO.ad HR (i - 1) (by simp at hgt; omega) (by simp at hgt; omega))) (fun _ z => z),
          fun _ _ h => rb rfl rfl h.1 (fun hgt => x_field rfl (h.2.1.1 hgt) Try.underlying67 rfl sz3 (by decide) rfl) (fun _ z => z),
          fun _ _ h => rb rfl rfl h.1 (fun hgt => x_load1 rfl (h.2.1.1 hgt) Try.underlying3 rfl (RO.cell0 HR (below_step HB h.2.2.1) (by simp at hgt; omega) (by simp at hgt; omega))) (fun _ z => z),
          fun _ _ h => rb rfl rfl h.1 (fun hgt => x_neq rfl (h.2.1.1 hgt) (h.2.2.1.1 hgt)) (fun _ z => z),
          fun _ _ h => rv rfl (x_or rfl rfl h.1 (fun hc => h.2.1.1 (beq_iff_eq.2 hc))) rfl,
          fun _ _ h => rv rfl (x_assign rfl h.1) rfl, trivial⟩) ?_
        clear s0 s3 s23
        clear hN hD
        rintro a12 w12 hN hD ⟨s4, s0, s3, hGR, -⟩
        replace HB := below_step HB hGR
        clear hGR
        show Code.wp _ _ _ _ _
        refine wp_seq ?_
        refine deedL (.eq 40 (.bool ((i == 0) || (((go_ os i).actor) != ((go_ os (i - 1)).actor)))) :: .eq 41 (.bool ((i == 0) || (((go_ os i).actor) != ((go_ os (i - 1)).actor)))) :: .gv ((((i == 0) || (((go_ os i).actor) != ((go_ os (i - 1)).actor))) == true)) 42 (.slice A os.length c) :: .gv ((((i == 0) || (((go_ os i).actor) != ((go_ os (i - 1)).actor))) == true)) 43 (.int .i64 i) :: .gv ((((i == 0) || (((go_ os i).actor) != ((go_ os (i - 1)).actor))) == true)) 44 (.pointer (some ((adr A).add (i.toNat * 12)))) :: .gv ((((i == 0) || (((go_ os i).actor) != ((go_ os (i - 1)).actor))) == true)) 45 (.pointer (some (((adr A).add (i.toNat * 12)).add 1))) :: .gv ((((i == 0) || (((go_ os i).actor) != ((go_ os (i - 1)).actor))) == true)) 46 (.int .i64 ((go_ os i).seq)) :: .gv ((((i == 0) || (((go_ os i).actor) != ((go_ os (i - 1)).actor))) == true)) 47 (.bool (((go_ os i).seq) != 1)) :: .gv ((((i == 0) || (((go_ os i).actor) != ((go_ os (i - 1)).actor))) == true)) 48 (.bool (((go_ os i).seq) != 1)) :: .gv ((((i == 0) || (((go_ os i).actor) != ((go_ os (i - 1)).actor))) == true) && ((((go_ os i).seq) != 1) == false)) 49 (.int .i64 i) :: .gv ((((i == 0) || (((go_ os i).actor) != ((go_ os (i - 1)).actor))) == true) && ((((go_ os i).seq) != 1) == false)) 50 (.bool (decide (0 < i))) :: .gv ((((i == 0) || (((go_ os i).actor) != ((go_ os (i - 1)).actor))) == true) && ((((go_ os i).seq) != 1) == false)) 51 (.bool (decide (0 < i))) :: .gv (((((i == 0) || (((go_ os i).actor) != ((go_ os (i - 1)).actor))) == true) && ((((go_ os i).seq) != 1) == false)) && ((decide (0 < i)) == true)) 52 (.slice A os.length c) :: .gv (((((i == 0) || (((go_ os i).actor) != ((go_ os (i - 1)).actor))) == true) && ((((go_ os i).seq) != 1) == false)) && ((decide (0 < i)) == true)) 53 (.int .i64 i) :: .gv (((((i == 0) || (((go_ os i).actor) != ((go_ os (i - 1)).actor))) == true) && ((((go_ os i).seq) != 1) == false)) && ((decide (0 < i)) == true)) 54 (.pointer (some ((adr A).add (i.toNat * 12)))) :: .gv (((((i == 0) || (((go_ os i).actor) != ((go_ os (i - 1)).actor))) == true) && ((((go_ os i).seq) != 1) == false)) && ((decide (0 < i)) == true)) 55 (.pointer (some ((adr A).add (i.toNat * 12)))) :: .gv (((((i == 0) || (((go_ os i).actor) != ((go_ os (i - 1)).actor))) == true) && ((((go_ os i).seq) != 1) == false)) && ((decide (0 < i)) == true)) 56 (.int .i64 ((go_ os i).actor)) :: .gv (((((i == 0) || (((go_ os i).actor) != ((go_ os (i - 1)).actor))) == true) && ((((go_ os i).seq) != 1) == false)) && ((decide (0 < i)) == true)) 57 (.slice A os.length c) :: .gv (((((i == 0) || (((go_ os i).actor) != ((go_ os (i - 1)).actor))) == true) && ((((go_ os i).seq) != 1) == false)) && ((decide (0 < i)) == true)) 58 (.int .i64 i) :: .gv (((((i == 0) || (((go_ os i).actor) != ((go_ os (i - 1)).actor))) == true) && ((((go_ os i).seq) != 1) == false)) && ((decide (0 < i)) == true)) 59 (.int .i64 (i - 1)) :: .gv (((((i == 0) || (((go_ os i).actor) != ((go_ os (i - 1)).actor))) == true) && ((((go_ os i).seq) != 1) == false)) && ((decide (0 < i)) == true)) 60 (.pointer (some ((adr A).add ((i - 1).toNat * 12)))) :: .gv (((((i == 0) || (((go_ os i).actor) != ((go_ os (i - 1)).actor))) == true) && ((((go_ os i).seq) != 1) == false)) && ((decide (0 < i)) == true)) 61 (.pointer (some ((adr A).add ((i - 1).toNat * 12)))) :: .gv (((((i == 0) || (((go_ os i).actor) != ((go_ os (i - 1)).actor))) == true) && ((((go_ os i).seq) != 1) == false)) && ((decide (0 < i)) == true)) 62 (.int .i64 ((go_ os (i - 1)).actor)) :: .gv (((((i == 0) || (((go_ os i).actor) != ((go_ os (i - 1)).actor))) == true) && ((((go_ os i).seq) != 1) == false)) && ((decide (0 < i)) == true)) 63 (.bool (decide ((go_ os i).actor < (go_ os (i - 1)).actor))) :: .gv ((((i == 0) || (((go_ os i).actor) != ((go_ os (i - 1)).actor))) == true) && ((((go_ os i).seq) != 1) == false)) 64 (.bool ((decide (0 < i)) && (decide ((go_ os i).actor < (go_ os (i - 1)).actor)))) :: .gv ((((i == 0) || (((go_ os i).actor) != ((go_ os (i - 1)).actor))) == true)) 65 (.bool ((((go_ os i).seq) != 1) || ((decide (0 < i)) && (decide ((go_ os i).actor < (go_ os (i - 1)).actor))))) :: .eq 66 (.bool (((i == 0) || (((go_ os i).actor) != ((go_ os (i - 1)).actor))) && ((((go_ os i).seq) != 1) || ((decide (0 < i)) && (decide ((go_ os i).actor < (go_ os (i - 1)).actor)))))) :: .eq 67 (.bool (((i == 0) || (((go_ os i).actor) != ((go_ os (i - 1)).actor))) && ((((go_ os i).seq) != 1) || ((decide (0 < i)) && (decide ((go_ os i).actor < (go_ os (i - 1)).actor)))))) :: .gv (((((i == 0) || (((go_ os i).actor) != ((go_ os (i - 1)).actor))) && ((((go_ os i).seq) != 1) || ((decide (0 < i)) && (decide ((go_ os i).actor < (go_ os (i - 1)).actor))))) == false)) 68 (.bool ((i == 0) || (((go_ os i).actor) != ((go_ os (i - 1)).actor)))) :: .gv (((((i == 0) || (((go_ os i).actor) != ((go_ os (i - 1)).actor))) && ((((go_ os i).seq) != 1) || ((decide (0 < i)) && (decide ((go_ os i).actor < (go_ os (i - 1)).actor))))) == false)) 69 (.bool (!((i == 0) || (((go_ os i).actor) != ((go_ os (i - 1)).actor))))) :: .gv (((((i == 0) || (((go_ os i).actor) != ((go_ os (i - 1)).actor))) && ((((go_ os i).seq) != 1) || ((decide (0 < i)) && (decide ((go_ os i).actor < (go_ os (i - 1)).actor))))) == false)) 70 (.bool (!((i == 0) || (((go_ os i).actor) != ((go_ os (i - 1)).actor))))) :: .gv (((((i == 0) || (((go_ os i).actor) != ((go_ os (i - 1)).actor))) && ((((go_ os i).seq) != 1) || ((decide (0 < i)) && (decide ((go_ os i).actor < (go_ os (i - 1)).actor))))) == false) && ((!((i == 0) || (((go_ os i).actor) != ((go_ os (i - 1)).actor)))) == true)) 71 (.slice A os.length c) :: .gv (((((i == 0) || (((go_ os i).actor) != ((go_ os (i - 1)).actor))) && ((((go_ os i).seq) != 1) || ((decide (0 < i)) && (decide ((go_ os i).actor < (go_ os (i - 1)).actor))))) == false) && ((!((i == 0) || (((go_ os i).actor) != ((go_ os (i - 1)).actor)))) == true)) 72 (.int .i64 i) :: .gv (((((i == 0) || (((go_ os i).actor) != ((go_ os (i - 1)).actor))) && ((((go_ os i).seq) != 1) || ((decide (0 < i)) && (decide ((go_ os i).actor < (go_ os (i - 1)).actor))))) == false) && ((!((i == 0) || (((go_ os i).actor) != ((go_ os (i - 1)).actor)))) == true)) 73 (.pointer (some ((adr A).add (i.toNat * 12)))) :: .gv (((((i == 0) || (((go_ os i).actor) != ((go_ os (i - 1)).actor))) && ((((go_ os i).seq) != 1) || ((decide (0 < i)) && (decide ((go_ os i).actor < (go_ os (i - 1)).actor))))) == false) && ((!((i == 0) || (((go_ os i).actor) != ((go_ os (i - 1)).actor)))) == true)) 74 (.pointer (some (((adr A).add (i.toNat * 12)).add 1))) :: .gv (((((i == 0) || (((go_ os i).actor) != ((go_ os (i - 1)).actor))) && ((((go_ os i).seq) != 1) || ((decide (0 < i)) && (decide ((go_ os i).actor < (go_ os (i - 1)).actor))))) == false) && ((!((i == 0) || (((go_ os i).actor) != ((go_ os (i - 1)).actor)))) == true)) 75 (.int .i64 ((go_ os i).seq)) :: .gv (((((i == 0) || (((go_ os i).actor) != ((go_ os (i - 1)).actor))) && ((((go_ os i).seq) != 1) || ((decide (0 < i)) && (decide ((go_ os i).actor < (go_ os (i - 1)).actor))))) == false) && ((!((i == 0) || (((go_ os i).actor) != ((go_ os (i - 1)).actor)))) == true)) 76 (.slice A os.length c) :: .gv (((((i == 0) || (((go_ os i).actor) != ((go_ os (i - 1)).actor))) && ((((go_ os i).seq) != 1) || ((decide (0 < i)) && (decide ((go_ os i).actor < (go_ os (i - 1)).actor))))) == false) && ((!((i == 0) || (((go_ os i).actor) != ((go_ os (i - 1)).actor)))) == true)) 77 (.int .i64 i) :: .gv (((((i == 0) || (((go_ os i).actor) != ((go_ os (i - 1)).actor))) && ((((go_ os i).seq) != 1) || ((decide (0 < i)) && (decide ((go_ os i).actor < (go_ os (i - 1)).actor))))) == false) && ((!((i == 0) || (((go_ os i).actor) != ((go_ os (i - 1)).actor)))) == true)) 78 (.int .i64 (i - 1)) :: .gv (((((i == 0) || (((go_ os i).actor) != ((go_ os (i - 1)).actor))) && ((((go_ os i).seq) != 1) || ((decide (0 < i)) && (decide ((go_ os i).actor < (go_ os (i - 1)).actor))))) == false) && ((!((i == 0) || (((go_ os i).actor) != ((go_ os (i - 1)).actor)))) == true)) 79 (.pointer (some ((adr A).add ((i - 1).toNat * 12)))) :: .gv (((((i == 0) || (((go_ os i).actor) != ((go_ os (i - 1)).actor))) && ((((go_ os i).seq) != 1) || ((decide (0 < i)) && (decide ((go_ os i).actor < (go_ os (i - 1)).actor))))) == false) && ((!((i == 0) || (((go_ os i).actor) != ((go_ os (i - 1)).actor)))) == true)) 80 (.pointer (some (((adr A).add ((i - 1).toNat * 12)).add 1))) :: .gv (((((i == 0) || (((go_ os i).actor) != ((go_ os (i - 1)).actor))) && ((((go_ os i).seq) != 1) || ((decide (0 < i)) && (decide ((go_ os i).actor < (go_ os (i - 1)).actor))))) == false) && ((!((i == 0) || (((go_ os i).actor) != ((go_ os (i - 1)).actor)))) == true)) 81 (.int .i64 ((go_ os (i - 1)).seq)) :: .gv (((((i == 0) || (((go_ os i).actor) != ((go_ os (i - 1)).actor))) && ((((go_ os i).seq) != 1) || ((decide (0 < i)) && (decide ((go_ os i).actor < (go_ os (i - 1)).actor))))) == false) && ((!((i == 0) || (((go_ os i).actor) != ((go_ os (i - 1)).actor)))) == true)) 82 (.int .i64 ((go_ os (i - 1)).seq + 1)) :: .gv (((((i == 0) || (((go_ os i).actor) != ((go_ os (i - 1)).actor))) && ((((go_ os i).seq) != 1) || ((decide (0 < i)) && (decide ((go_ os i).actor < (go_ os (i - 1)).actor))))) == false) && ((!((i == 0) || (((go_ os i).actor) != ((go_ os (i - 1)).actor)))) == true)) 83 (.bool (((go_ os i).seq) != ((go_ os (i - 1)).seq + 1))) :: .gv (((((i == 0) || (((go_ os i).actor) != ((go_ os (i - 1)).actor))) && ((((go_ os i).seq) != 1) || ((decide (0 < i)) && (decide ((go_ os i).actor < (go_ os (i - 1)).actor))))) == false)) 84 (.bool ((!((i == 0) || (((go_ os i).actor) != ((go_ os (i - 1)).actor)))) && (((go_ os i).seq) != ((go_ os (i - 1)).seq + 1)))) :: .eq 85 (.bool ((((i == 0) || (((go_ os i).actor) != ((go_ os (i - 1)).actor))) && ((((go_ os i).seq) != 1) || ((decide (0 < i)) && (decide ((go_ os i).actor < (go_ os (i - 1)).actor))))) || ((!((i == 0) || (((go_ os i).actor) != ((go_ os (i - 1)).actor)))) && (((go_ os i).seq) != ((go_ os (i - 1)).seq + 1))))) :: .eq 0 (.slice A os.length c) :: .eq 3 (.int .i64 i) :: .eq 4 (.bool ((i == 0) || (((go_ os i).actor) != ((go_ os (i - 1)).actor)))) :: .w (Below w12.heap.size w12) :: []) 138 ([48] :: [0] :: [1, 46] :: [1, 47] :: [1, 2, 3] :: [1, 4] :: [1, 5, 49] :: [1, 6] :: [1, 7] :: [8, 47] :: [8, 9] :: [8, 10] :: [11, 46] :: [11, 47] :: [11, 12, 13] :: [11, 14] :: [11, 15, 49] :: [11, 46] :: [11, 47] :: [11, 18] :: [11, 17, 19] :: [11, 20] :: [11, 21, 49] :: [11, 16, 22] :: [8, 11, 23] :: [1, 8, 24] :: [1, 25] :: [26] :: [27, 48] :: [27, 28] :: [27, 29] :: [30, 46] :: [30, 47] :: [30, 31, 32] :: [30, 33] :: [30, 34, 49] :: [30, 46] :: [30, 47] :: [30, 37] :: [30, 36, 38] :: [30, 39] :: [30, 40, 49] :: [30, 41] :: [30, 35, 42] :: [27, 30, 43] :: [27, 44] :: []) [] [45, 46, 47, 48, 49] hM hN hD (by kernel_rfl) ⟨s0, s3, s4, ⟨Below.refl _ _, below_drew (Below.refl _ _)⟩, trivial⟩ ⟨fun _ _ hb h => below_step h hb, trivial⟩ (fun hgrow => ⟨fun _ _ h => rv rfl (x_move rfl h.1) rfl,
          fun _ _ h => rv rfl (x_move rfl h.1) rfl,
          fun _ _ h => rb rfl rfl h.1 (fun hgt => x_move rfl h.2.1) (fun _ z => z),
          fun _ _ h => rb rfl rfl h.1 (fun hgt => x_move rfl h.2.1) (fun _ z => z),
          fun _ _ h => rb rfl rfl h.1 (fun hgt => x_index_at rfl (h.2.1.1 hgt) (h.2.2.1.1 hgt) Try.underlying27 sz67 (by simp at hgt; omega) (by simp at hgt; omega) (RO.ad HR i (by simp at hgt; omega) (by simp at hgt; omega))) (fun _ z => z),
          fun _ _ h => rb rfl rfl h.1 (fun hgt => x_field rfl (h.2.1.1 hgt) Try.underlying67 rfl sz3 (by decide) rfl) (fun _ z => z),
          fun _ _ h => rb rfl rfl h.1 (fun hgt => x_load1 rfl (h.2.1.1 hgt) Try.underlying3 rfl (RO.cell HR (below_step HB h.2.2.1) (by simp at hgt; omega) (by simp at hgt; omega) (j := 1) rfl)) (fun _ z => z),
          fun _ _ h => rb rfl rfl h.1 (fun hgt => x_neq rfl (h.2.1.1 hgt) rfl) (fun _ z => z),
          fun _ _ h => rb rfl rfl h.1 (fun hgt => x_move rfl (h.2.1.1 hgt)) (fun _ z => z),
          fun _ _ h => rg rfl rfl h.1 (fun hgt => x_move rfl h.2.1) (fun _ z => z),
          fun _ _ h => rg rfl rfl h.1 (fun hgt => x_gtr rfl (h.2.1.1 hgt) rfl) (fun _ z => z),
          fun _ _ h => rg rfl rfl h.1 (fun hgt => x_move rfl (h.2.1.1 hgt)) (fun _ z => z),
          fun _ _ h => rg rfl rfl h.1 (fun hgt => x_move rfl h.2.1) (fun _ z => z),
          fun _ _ h => rg rfl rfl h.1 (fun hgt => x_move rfl h.2.1) (fun _ z => z),
          fun _ _ h => rg rfl rfl h.1 (fun hgt => x_index_at rfl (h.2.1.1 hgt) (h.2.2.1.1 hgt) Try.underlying27 sz67 (by simp at hgt; omega) (by simp at hgt; omega) (RO.ad HR i (by simp at hgt; omega) (by simp at hgt; omega))) (fun _ z => z),
          fun _ _ h => rg rfl rfl h.1 (fun hgt => x_field rfl (h.2.1.1 hgt) Try.underlying67 rfl sz3 (by decide) rfl) (fun _ z => z),
          fun _ _ h => rg rfl rfl h.1 (fun hgt => x_load1 rfl (h.2.1.1 hgt) Try.underlying3 rfl (RO.cell0 HR (below_step HB h.2.2.1) (by simp at hgt; omega) (by simp at hgt; omega))) (fun _ z => z),
          fun _ _ h => rg rfl rfl h.1 (fun hgt => x_move rfl h.2.1) (fun _ z => z),
          fun _ _ h => rg rfl rfl h.1 (fun hgt => x_move rfl h.2.1) (fun _ z => z),
          fun _ _ h => rg rfl rfl h.1 (fun hgt => x_sub' rfl (h.2.1.1 hgt) rfl (by simp at hgt; omega)) (fun _ z => z),
          fun _ _ h => rg rfl rfl h.1 (fun hgt => x_index_at rfl (h.2.1.1 hgt) (h.2.2.1.1 hgt) Try.underlying27 sz67 (by simp at hgt; omega) (by simp at hgt; omega) (RO.ad HR (i - 1) (by simp at hgt; omega) (by simp at hgt; omega))) (fun _ z => z),
          fun _ _ h => rg rfl rfl h.1 (fun hgt => x_field rfl (h.2.1.1 hgt) Try.underlying67 rfl sz3 (by decide) rfl) (fun _ z => z),
          fun _ _ h => rg rfl rfl h.1 (fun hgt => x_load1 rfl (h.2.1.1 hgt) Try.underlying3 rfl (RO.cell0 HR (below_step HB h.2.2.1) (by simp at hgt; omega) (by simp at hgt; omega))) (fun _ z => z),
          fun _ _ h => rg rfl rfl h.1 (fun hgt => x_lss rfl (h.2.1.1 hgt) (h.2.2.1.1 hgt)) (fun _ z => z),
          fun _ _ h => rg rfl rfl h.1 (fun hgt => x_and rfl rfl (h.2.1.1 hgt) (fun hc => h.2.2.1.1 (Bool.and_eq_true _ _ ▸ ⟨hgt, beq_iff_eq.2 hc⟩))) (fun _ z => z),
          fun _ _ h => rb rfl rfl h.1 (fun hgt => x_or rfl rfl (h.2.1.1 hgt) (fun hc => h.2.2.1.1 (Bool.and_eq_true _ _ ▸ ⟨hgt, beq_iff_eq.2 hc⟩))) (fun _ z => z),
          fun _ _ h => rv rfl (x_and rfl rfl h.1 (fun hc => h.2.1.1 (beq_iff_eq.2 hc))) rfl,
          fun _ _ h => rv rfl (x_move rfl h.1) rfl,
          fun _ _ h => rb rfl rfl h.1 (fun hgt => x_move rfl h.2.1) (fun _ z => z),
          fun _ _ h => rb rfl rfl h.1 (fun hgt => x_not rfl (h.2.1.1 hgt)) (fun _ z => z),
          fun _ _ h => rb rfl rfl h.1 (fun hgt => x_move rfl (h.2.1.1 hgt)) (fun _ z => z),
          fun _ _ h => rg rfl rfl h.1 (fun hgt => x_move rfl h.2.1) (fun _ z => z),
          fun _ _ h => rg rfl rfl h.1 (fun hgt => x_move rfl h.2.1) (fun _ z => z),
          fun _ _ h => rg rfl rfl h.1 (fun hgt => x_index_at rfl (h.2.1.1 hgt) (h.2.2.1.1 hgt) Try.underlying27 sz67 (by simp at hgt; omega) (by simp at hgt; omega) (RO.ad HR i (by simp at hgt; omega) (by simp at hgt; omega))) (fun _ z => z),
          fun _ _ h => rg rfl rfl h.1 (fun hgt => x_field rfl (h.2.1.1 hgt) Try.underlying67 rfl sz3 (by decide) rfl) (fun _ z => z),
          fun _ _ h => rg rfl rfl h.1 (fun hgt => x_load1 rfl (h.2.1.1 hgt) Try.underlying3 rfl (RO.cell HR (below_step HB h.2.2.1) (by simp at hgt; omega) (by simp at hgt; omega) (j := 1) rfl)) (fun _ z => z),
          fun _ _ h => rg rfl rfl h.1 (fun hgt => x_move rfl h.2.1) (fun _ z => z),
          fun _ _ h => rg rfl rfl h.1 (fun hgt => x_move rfl h.2.1) (fun _ z => z),
          fun _ _ h => rg rfl rfl h.1 (fun hgt => x_sub' rfl (h.2.1.1 hgt) rfl (by simp at hgt; omega)) (fun _ z => z),
          fun _ _ h => rg rfl rfl h.1 (fun hgt => x_index_at rfl (h.2.1.1 hgt) (h.2.2.1.1 hgt) Try.underlying27 sz67 (by simp at hgt; omega) (by simp at hgt; omega) (RO.ad HR (i - 1) (by simp at hgt; omega) (by simp at hgt; omega))) (fun _ z => z),
          fun _ _ h => rg rfl rfl h.1 (fun hgt => x_field rfl (h.2.1.1 hgt) Try.underlying67 rfl sz3 (by decide) rfl) (fun _ z => z),
          fun _ _ h => rg rfl rfl h.1 (fun hgt => x_load1 rfl (h.2.1.1 hgt) Try.underlying3 rfl (RO.cell HR (below_step HB h.2.2.1) (by simp at hgt; omega) (by simp at hgt; omega) (j := 1) rfl)) (fun _ z => z),
          fun _ _ h => rg rfl rfl h.1 (fun hgt => x_add' rfl (h.2.1.1 hgt) rfl (by have hq := iOp_fine (hi (i - 1) (by simp at hgt; omega) (by omega)).1; have := hq.s0; have := hq.s1; omega)) (fun _ z => z),
          fun _ _ h => rg rfl rfl h.1 (fun hgt => x_neq rfl (h.2.1.1 hgt) (h.2.2.1.1 hgt)) (fun _ z => z),
          fun _ _ h => rb rfl rfl h.1 (fun hgt => x_and rfl rfl (h.2.1.1 hgt) (fun hc => h.2.2.1.1 (Bool.and_eq_true _ _ ▸ ⟨hgt, beq_iff_eq.2 hc⟩))) (fun _ z => z),
          fun _ _ h => rv rfl (x_or rfl rfl h.1 (fun hc => h.2.1.1 (beq_iff_eq.2 hc))) rfl, trivial⟩) ?_
        clear s0 s3 s4
        clear hN hD
        rintro a13 w13 hN hD ⟨s85, s0, s3, s4, hGR, -⟩
        replace HB := below_step HB hGR
        clear hGR
        show Code.wp _ _ _ _ _
        refine wp_cond (t := (((i == 0) || (((go_ os i).actor) != ((go_ os (i - 1)).actor))) && ((((go_ os i).seq) != 1) || ((decide (0 < i)) && (decide ((go_ os i).actor < (go_ os (i - 1)).actor))))) || ((!((i == 0) || (((go_ os i).actor) != ((go_ os (i - 1)).actor)))) && (((go_ os i).seq) != ((go_ os (i - 1)).seq + 1)))) s85 ?_
        rcases Bool.eq_false_or_eq_true ((((i == 0) || (((go_ os i).actor) != ((go_ os (i - 1)).actor))) && ((((go_ os i).seq) != 1) || ((decide (0 < i)) && (decide ((go_ os i).actor < (go_ os (i - 1)).actor))))) || ((!((i == 0) || (((go_ os i).actor) != ((go_ os (i - 1)).actor)))) && (((go_ os i).seq) != ((go_ os (i - 1)).seq + 1)))) with cd14 | cd14
        · rw [cd14]
          show Code.wp _ _ _ _ _
          have hs : sBad os i = true := cd14
          refine wp_seq ?_
          refine deedL [.eq 2 (.bool false), .w (Below w13.heap.size w13)] 138 [[]] [] [0, 1] hM hN hD (by kernel_rfl) ⟨⟨Below.refl _ _, below_drew (Below.refl _ _)⟩, trivial⟩ ⟨fun _ _ hb h => below_step h hb, trivial⟩ (fun hgrow => ⟨fun _ _ _ => rv rfl (x_assign rfl rfl) rfl, trivial⟩) ?_
          clear s0 s3 s4 s85
          clear hN hD
          rintro a15 w15 hN hD ⟨s2, hGR, -⟩
          replace HB := below_step HB hGR
          clear hGR
          show Code.wp _ _ _ _ _
          refine wp_ret (blk_ret (then_ret (then_ret (blk_ret (then_ret ?_)))))
          refine bodyPost_ret (results_single rfl (vtmp s2 .nil)) hD ?_
          exact ⟨by rw [sLogOK_false (fun h => by have := (h.2.1 i hi0 hi2).2; rw [hs] at this; cases this)], HB⟩
        · rw [cd14]
          show Code.wp _ _ _ _ _
          have hs : sBad os i = false := cd14
          refine wp_skip ?_
          show Code.wp _ _ _ _ _
          refine deedL [.eq 16 (.int .i64 i), .eq 17 (.int .i64 (i + 1)), .eq 3 (.int .i64 (i + 1)), .eq 0 (.slice A os.length c), .eq 3 (.int .i64 i), .w (Below w13.heap.size w13)] 138 [[4], [0], [1]] [[], [], [4]] [2, 3, 5] hM hN hD (by kernel_rfl) ⟨s0, s3, ⟨Below.refl _ _, below_drew (Below.refl _ _)⟩, trivial⟩ ⟨fun _ _ hb h => below_step h hb, trivial⟩ (fun hgrow => ⟨fun _ _ h => rv rfl (x_move rfl h.1) rfl,
            fun _ _ h => rv rfl (x_add' rfl h.1 rfl (by omega)) rfl,
            fun _ _ h => rv rfl (x_assign rfl h.1) rfl, trivial⟩) ?_
          clear s0 s3 s4 s85
          clear hN hD
          rintro a16 w16 hN hD ⟨s3, s0, hGR, -⟩
          replace HB := below_step HB hGR
          clear hGR
          show ∃ m, m < n_6 ∧ _
          exact ⟨_, (by omega), ⟨(i + 1), hN, hD, s0, s3, HB, (by omega), (by omega), (by intro j h0 h1; by_cases e : j = i; (subst e; exact ⟨ho, hs⟩); exact hi j h0 (by omega)), rfl⟩⟩
    · rw [cd8]
      show Code.wp _ _ _ _ _
      have pd8 := of_decide_eq_false cd8
      refine wp_exit (then_exit (then_exit (at_exit ?_)))
      show Code.wp _ _ _ _ _
      refine wp_seq ?_
      have hst : Steps os := fun j h0 h1 => hi j h0 (by omega)
      have hac : Actors os := Steps.actors (fun j h0 h1 => (hst j h0 h1).1)
      refine deedL [.eq 86 (.slice A os.length c), .s1 87 fun x_ W => ∃ (gc : Nat), x_ = .agg #[Value.slice (some ⟨gc, 0, none⟩) 16 16] ∧ w7.heap.size ≤ gc ∧ IB W gc (cnt os) 3, .s1 5 (NewB w7.heap.size [.slice none 0 0] 41), .s2 87 5 fun x_ y_ W => ∃ (gc : Nat), x_ = .agg #[Value.slice (some ⟨gc, 0, none⟩) 16 16] ∧ NewB w7.heap.size [.slice (some ⟨gc, 0, none⟩) 16 16] 41 y_ W, .eq 0 (.slice A os.length c), .w (Below w7.heap.size w7)] 138 [[4], [0, 5], [5], [2, 1, 5]] [[], [], [], [2]] [1, 3, 4, 5] hM hN hD (by kernel_rfl) ⟨s0, ⟨Below.refl _ _, below_drew (Below.refl _ _)⟩, trivial⟩ ⟨fun _ _ _ hb h => by obtain ⟨gc, e_, z0, z1⟩ := h; exact ⟨_, e_, z0, z1.below hb⟩, fun _ _ _ hb h => h.grow hb, fun _ _ _ _ hb h => by obtain ⟨gc, e_, h_⟩ := h; exact ⟨_, e_, h_.grow hb⟩, fun _ _ hb h => below_step h hb, trivial⟩ (fun hgrow => ⟨fun _ _ h => rv rfl (x_move rfl h.1) rfl,
        fun _ _ h => rc hgrow rfl Try.func64 (by kernel_rfl) rfl rfl (args1 h.1) (sCounts_calls A os D C c _ (RO.below HR (below_step HB h.2.1)) hac (by omega)) (fun _ _ hR => by obtain ⟨gc, e_, z0, z1, hb⟩ := hR; exact ⟨_, e_, hb, gc, rfl, (Nat.le_trans h.2.1.size z0), z1⟩),
        fun _ _ h => rbox hgrow rfl (x_alloc rfl zr41) h.1.size (fun _ _ z => z),
        ?_, trivial⟩) ?_
      · rintro a_ W ⟨h2, h1, h5, -⟩
        obtain ⟨gc, e1, HLgc, HCgc⟩ := h1
        obtain ⟨g5, e3, l3, hb3⟩ := h2
        exact rstoreS rfl rfl e3 e1 (by simp [Value.oneCell']) sz41 hb3 rfl ⟨_, e1, ⟨_, e3, l3, blk_stored (cs := [.slice (some ⟨gc, 0, none⟩) 16 16]) 0 _ [.slice none 0 0] hb3 (of_decide_eq_true rfl)⟩⟩ ⟨fun h => by obtain ⟨gc, e_, z0, z1⟩ := h; exact ⟨_, e_, z0, (setCells_far _ _ _ (blk_neT z1 hb3 rfl)).trans z1⟩, fun h => below_cells h l3, trivial⟩
      clear s0 s3 s15
      clear hN hD
      rintro a17 w17 hN hD ⟨⟨gc, s87, HLgc, HCgc⟩, qs3, s0, hGR, -⟩
      obtain ⟨gc_, e_, g5, s5, lg5, HBX5⟩ := qs3
      cases s87.symm.trans e_
      have lgc := HLgc
      clear HLgc
      replace lgc := Nat.le_trans HB.size lgc
      replace lg5 := Nat.le_trans HB.size lg5
      replace HB := below_step HB hGR
      clear hGR
      show Code.wp _ _ _ _ _
      refine wp_seq ?_
      refine deedL [.s1 88 (NewS w17.heap.size 101 (List.replicate 101 0) 3), .s2 88 6 fun x_ y_ _ => ∃ (g88 : Nat), x_ = .slice (some ⟨g88, 0, none⟩) 101 101 ∧ y_ = .slice (some ⟨g88, 0, none⟩) 101 101, .eq 0 (.slice A os.length c), .eq 5 (.pointer (some ⟨g5, 0, none⟩)), .w (Below w17.heap.size w17)] 138 [[4], [0]] [] [0, 1, 2, 3, 4] hM hN hD (by kernel_rfl) ⟨s0, s5, ⟨Below.refl _ _, below_drew (Below.refl _ _)⟩, trivial⟩ ⟨fun _ _ _ hb h => h.grow hb, fun _ _ _ _ hb h => h, fun _ _ hb h => below_step h hb, trivial⟩ (fun hgrow => ⟨fun _ _ h => rmakeI hgrow rfl (x_makeI rfl rfl rfl Try.underlying24 inf3 rfl (by decide)) h.1.size (fun _ _ z => z),
        ?_, trivial⟩) ?_
      · rintro a_ W ⟨h0, -⟩
        obtain ⟨g88, e0, l0, hb0⟩ := h0
        exact rv rfl (x_assign rfl e0) ⟨_, e0, rfl⟩
      clear s0 s5
      clear hN hD
      rintro a18 w18 hN hD ⟨⟨g88, s88, lg88, HBX88⟩, q6, s0, s5, hGR, -⟩
      obtain ⟨g88_, e_, s6⟩ := q6
      cases s88.symm.trans e_
      have n_gc_g88 : gc ≠ g88 := by have := blk_lt HCgc; omega
      replace lg88 := Nat.le_trans HB.size lg88
      replace HB := below_step HB hGR
      replace HCgc := HCgc.below hGR
      replace HBX5 := blk_below HBX5 hGR
      clear hGR
      show Code.wp _ _ _ _ _
      refine wp_seq ?_
      refine wp_seq ?_
      refine deedL [.eq 7 (.int .i64 0), .eq 0 (.slice A os.length c), .eq 5 (.pointer (some ⟨g5, 0, none⟩)), .eq 6 (.slice (some ⟨g88, 0, none⟩) 101 101), .w (Below w18.heap.size w18)] 138 [[]] [] [0, 1, 2, 3, 4] hM hN hD (by kernel_rfl) ⟨s0, s5, s6, ⟨Below.refl _ _, below_drew (Below.refl _ _)⟩, trivial⟩ ⟨fun _ _ hb h => below_step h hb, trivial⟩ (fun hgrow => ⟨fun _ _ _ => rv rfl (x_assign rfl rfl) rfl, trivial⟩) ?_
      clear s0 s5 s6
      clear hN hD
      rintro a19 w19 hN hD ⟨s7, s0, s5, s6, hGR, -⟩
      replace HB := below_step HB hGR
      replace HCgc := HCgc.below hGR
      replace HBX5 := blk_below HBX5 hGR
      replace HBX88 := HBX88.below hGR
      clear hGR
      show Code.wp _ _ _ _ _
      refine wp_block ?_
      refine wp_loopN (fun n_ q_ w_ => ∃ (k : Int), (q_.tmps.size = 138) ∧ (q_.defers = []) ∧ (sl q_ 0 = .slice A os.length c) ∧ (sl q_ 5 = .pointer (some ⟨g5, 0, none⟩)) ∧ (sl q_ 6 = .slice (some ⟨g88, 0, none⟩) 101 101) ∧ (sl q_ 7 = .int .i64 k) ∧ (Below w.heap.size w w_) ∧ (IB w_ gc (cnt os) 3) ∧ (w_.heap[g5]? = some (.cells ([.slice (some ⟨gc, 0, none⟩) 16 16]).toArray 41 (0, 0))) ∧ (IB w_ g88 (tf (fun o => sthing o.kind) (os.take k.toNat)) 3) ∧ (0 ≤ k) ∧ (k ≤ os.length) ∧ (∀ j : Int, 0 ≤ j → j < k → causes os (cnt os) (go_ os j) = true ∧ SKind os j) ∧ (n_ = (os.length - k).toNat)) ((fun (k : Int) => (os.length - k).toNat) 0) ?_ ?_
      · exact ⟨0, hN, hD, s0, s5, s6, s7, HB, HCgc, HBX5, HBX88, (by omega), (by omega), (by intro j h0 h1; omega), rfl⟩
      clear s0 s5 s6 s7 HB HCgc HBX5 HBX88 hN hD
      rintro n_20 a20 w20 ⟨k, hN, hD, s0, s5, s6, s7, HB, HCgc, HBX5, HBX88, hk0, hk1, hk, hmeas⟩
      refine wp_seq ?_
      refine wp_seq ?_
      refine deedL [.eq 89 (.int .i64 k), .eq 90 (.slice A os.length c), .eq 91 (.int .i64 (os.length : Int)), .eq 92 (.bool (decide (k < (os.length : Int)))), .eq 0 (.slice A os.length c), .eq 5 (.pointer (some ⟨g5, 0, none⟩)), .eq 6 (.slice (some ⟨g88, 0, none⟩) 101 101), .eq 7 (.int .i64 k), .w (Below w20.heap.size w20)] 138 [[7], [4], [1], [0, 2]] [] [3, 4, 5, 6, 7, 8] hM hN hD (by kernel_rfl) ⟨s0, s5, s6, s7, ⟨Below.refl _ _, below_drew (Below.refl _ _)⟩, trivial⟩ ⟨fun _ _ hb h => below_step h hb, trivial⟩ (fun hgrow => ⟨fun _ _ h => rv rfl (x_move rfl h.1) rfl,
        fun _ _ h => rv rfl (x_move rfl h.1) rfl,
        fun _ _ h => rv rfl (x_len_slice rfl Try.underlying27 h.1) rfl,
        fun _ _ h => rv rfl (x_lss rfl h.1 h.2.1) rfl, trivial⟩) ?_
      clear s0 s5 s6 s7
      clear hN hD
      rintro a21 w21 hN hD ⟨s92, s0, s5, s6, s7, hGR, -⟩
      replace HB := below_step HB hGR
      replace HCgc := HCgc.below hGR
      replace HBX5 := blk_below HBX5 hGR
      replace HBX88 := HBX88.below hGR
      clear hGR
      show Code.wp _ _ _ _ _
      refine wp_cond (t := decide (k < (os.length : Int))) s92 ?_
      rcases Bool.eq_false_or_eq_true (decide (k < (os.length : Int))) with cd22 | cd22
      · rw [cd22]
        show Code.wp _ _ _ _ _
        have pd22 := of_decide_eq_true cd22
        have hk2 := pd22
        refine wp_skip ?_
        show Code.wp _ _ _ _ _
        refine wp_seq ?_
        refine wp_block ?_
        refine wp_seq ?_
        refine wp_seq ?_
        have hf := iOp_fine (hst k hk0 hk2).1
        have hj0 := hf.j0
        have hj1 := hf.j1
        have htl := tf_length (fun o => sthing o.kind) (os.take k.toNat)
        refine deedL [.eq 95 (.slice A os.length c), .eq 96 (.agg #[Value.slice (some ⟨gc, 0, none⟩) 16 16]), .eq 97 (.slice A os.length c), .eq 98 (.int .i64 k), .eq 99 (.pointer (some ((adr A).add (k.toNat * 12)))), .eq 100 (.agg (opc (go_ os k) (D k.toNat) (C k.toNat)).toArray), .eq 101 (.bool (causes os (cnt os) (go_ os k))), .eq 102 (.bool (!(causes os (cnt os) (go_ os k)))), .eq 0 (.slice A os.length c), .eq 5 (.pointer (some ⟨g5, 0, none⟩)), .eq 6 (.slice (some ⟨g88, 0, none⟩) 101 101), .eq 7 (.int .i64 k), .w (Below w21.heap.size w21)] 138 [[8], [9, 12], [8], [11], [2, 3], [4, 12], [0, 1, 5, 12], [6]] [] [7, 8, 9, 10, 11, 12] hM hN hD (by kernel_rfl) ⟨s0, s5, s6, s7, ⟨Below.refl _ _, below_drew (Below.refl _ _)⟩, trivial⟩ ⟨fun _ _ hb h => below_step h hb, trivial⟩ (fun hgrow => ⟨fun _ _ h => rv rfl (x_move rfl h.1) rfl,
          fun _ _ h => rv rfl (x_loadS rfl h.1 Try.underlying41 [.slice (some ⟨gc, 0, none⟩) 16 16] sz41 (blk_list (L := [.slice (some ⟨gc, 0, none⟩) 16 16]) (blk_below HBX5 h.2.1) 0 rfl)) rfl,
          fun _ _ h => rv rfl (x_move rfl h.1) rfl,
          fun _ _ h => rv rfl (x_move rfl h.1) rfl,
          fun _ _ h => rv rfl (x_index_at rfl h.1 h.2.1 Try.underlying27 sz67 (by omega) (by omega) (RO.ad HR k (by omega) (by omega))) rfl,
          fun _ _ h => rv rfl (x_loadS rfl h.1 Try.underlying67 (opc (go_ os k) (D k.toNat) (C k.toNat)) sz67 (RO.cells HR (below_step HB h.2.1) (by omega) (by omega))) rfl,
          fun _ _ h => rc hgrow rfl Try.func85 (by kernel_rfl) rfl rfl (args3 h.1 h.2.1 h.2.2.1) (sCauses_calls A os D C c (some ⟨gc, 0, none⟩) (cnt os) 16 (go_ os k) (D k.toNat) (C k.toNat) _ (RO.below HR (below_step HB h.2.2.2.1)) (IB.RI (HCgc.below h.2.2.2.1)) (RI.below (RO.deps HR (by omega) (by omega)) (below_step HB h.2.2.2.1)) (by omega) (cnt_length os) hf.vec.1 (fun a n u v hn hv => find_ok hst hn (by rwa [gi_cnt hac u v] at hv))) (fun _ _ h => ⟨_, h.1, h.2, rfl⟩),
          fun _ _ h => rv rfl (x_not rfl h.1) rfl, trivial⟩) ?_
        clear s0 s5 s6 s7 s92
        clear hN hD
        rintro a23 w23 hN hD ⟨s102, s0, s5, s6, s7, hGR, -⟩
        replace HB := below_step HB hGR
        replace HCgc := HCgc.below hGR
        replace HBX5 := blk_below HBX5 hGR
        replace HBX88 := HBX88.below hGR
        clear hGR
        show Code.wp _ _ _ _ _
        refine wp_cond (t := !(causes os (cnt os) (go_ os k))) s102 ?_
        rcases Bool.eq_false_or_eq_true (!(causes os (cnt os) (go_ os k))) with cd24 | cd24
        · rw [cd24]
          show Code.wp _ _ _ _ _
          have pd24 := cd24
          simp at pd24
          have hc := cd24
          refine wp_seq ?_
          refine deedL [.eq 2 (.bool false), .w (Below w23.heap.size w23)] 138 [[]] [] [0, 1] hM hN hD (by kernel_rfl) ⟨⟨Below.refl _ _, below_drew (Below.refl _ _)⟩, trivial⟩ ⟨fun _ _ hb h => below_step h hb, trivial⟩ (fun hgrow => ⟨fun _ _ _ => rv rfl (x_assign rfl rfl) rfl, trivial⟩) ?_
          clear s0 s5 s6 s7 s102
          clear hN hD
          rintro a25 w25 hN hD ⟨s2, hGR, -⟩
          replace HB := below_step HB hGR
          replace HCgc := HCgc.below hGR
          replace HBX5 := blk_below HBX5 hGR
          replace HBX88 := HBX88.below hGR
          clear hGR
          show Code.wp _ _ _ _ _
          refine wp_ret (then_ret (blk_ret (then_ret (then_ret (blk_ret (then_ret ?_))))))
          refine bodyPost_ret (results_single rfl (vtmp s2 .nil)) hD ?_
          exact ⟨by rw [sLogOK_false (fun h => by have := (h.2.2 k hk0 hk2).1; simp [this] at hc)], HB⟩
        · rw [cd24]
          show Code.wp _ _ _ _ _
          have pd24 := cd24
          simp at pd24
          have hc : causes os (cnt os) (go_ os k) = true := by have := cd24; simpa using this
          refine wp_skip ?_
          show Code.wp _ _ _ _ _
          refine wp_seq ?_
          refine deedL [.eq 103 (.slice A os.length c), .eq 104 (.int .i64 k), .eq 105 (.pointer (some ((adr A).add (k.toNat * 12)))), .eq 106 (.pointer (some (((adr A).add (k.toNat * 12)).add 4))), .eq 107 (.int .i64 ((go_ os k).kind)), .eq 108 (.int .i64 (sthing ((go_ os k).kind))), .eq 8 (.int .i64 (sthing ((go_ os k).kind))), .eq 0 (.slice A os.length c), .eq 5 (.pointer (some ⟨g5, 0, none⟩)), .eq 6 (.slice (some ⟨g88, 0, none⟩) 101 101), .eq 7 (.int .i64 k), .w (Below w23.heap.size w23)] 138 [[7], [10], [0, 1], [2], [3, 11], [4], [5]] [] [6, 7, 8, 9, 10, 11] hM hN hD (by kernel_rfl) ⟨s0, s5, s6, s7, ⟨Below.refl _ _, below_drew (Below.refl _ _)⟩, trivial⟩ ⟨fun _ _ hb h => below_step h hb, trivial⟩ (fun hgrow => ⟨fun _ _ h => rv rfl (x_move rfl h.1) rfl,
            fun _ _ h => rv rfl (x_move rfl h.1) rfl,
            fun _ _ h => rv rfl (x_index_at rfl h.1 h.2.1 Try.underlying27 sz67 (by omega) (by omega) (RO.ad HR k (by omega) (by omega))) rfl,
            fun _ _ h => rv rfl (x_field rfl h.1 Try.underlying67 rfl sz3 (by decide) rfl) rfl,
            fun _ _ h => rv rfl (x_load1 rfl h.1 Try.underlying3 rfl (RO.cell HR (below_step HB h.2.1) (by omega) (by omega) (j := 4) rfl)) rfl,
            fun _ _ h => rc hgrow rfl Try.func91 (by kernel_rfl) rfl rfl (args1 h.1) (sThing_calls ((go_ os k).kind) _) (fun _ _ h => ⟨_, h.1, h.2, rfl⟩),
            fun _ _ h => rv rfl (x_assign rfl h.1) rfl, trivial⟩) ?_
          clear s0 s5 s6 s7 s102
          clear hN hD
          rintro a26 w26 hN hD ⟨s8, s0, s5, s6, s7, hGR, -⟩
          replace HB := below_step HB hGR
          replace HCgc := HCgc.below hGR
          replace HBX5 := blk_below HBX5 hGR
          replace HBX88 := HBX88.below hGR
          clear hGR
          show Code.wp _ _ _ _ _
          refine wp_seq ?_
          refine wp_seq ?_
          refine deedL (.eq 109 (.slice (some ⟨g88, 0, none⟩) 101 101) :: .eq 110 (.slice A os.length c) :: .eq 111 (.int .i64 k) :: .eq 112 (.pointer (some ((adr A).add (k.toNat * 12)))) :: .eq 113 (.pointer (some (((adr A).add (k.toNat * 12)).add 5))) :: .eq 114 (.int .i64 ((go_ os k).obj)) :: .eq 115 (.pointer (some ⟨g88, ((go_ os k).obj).toNat, none⟩)) :: (.eq 116 (.int .i64 (gi (tf (fun o => sthing o.kind) (os.take k.toNat)) ((go_ os k).obj)))) :: (.eq 117 (.bool ((gi (tf (fun o => sthing o.kind) (os.take k.toNat)) ((go_ os k).obj)) != 0))) :: (.eq 118 (.bool ((gi (tf (fun o => sthing o.kind) (os.take k.toNat)) ((go_ os k).obj)) != 0))) :: (.gv ((((gi (tf (fun o => sthing o.kind) (os.take k.toNat)) ((go_ os k).obj)) != 0) == true)) 119 (.slice (some ⟨g88, 0, none⟩) 101 101)) :: (.gv ((((gi (tf (fun o => sthing o.kind) (os.take k.toNat)) ((go_ os k).obj)) != 0) == true)) 120 (.slice A os.length c)) :: (.gv ((((gi (tf (fun o => sthing o.kind) (os.take k.toNat)) ((go_ os k).obj)) != 0) == true)) 121 (.int .i64 k)) :: (.gv ((((gi (tf (fun o => sthing o.kind) (os.take k.toNat)) ((go_ os k).obj)) != 0) == true)) 122 (.pointer (some ((adr A).add (k.toNat * 12))))) :: (.gv ((((gi (tf (fun o => sthing o.kind) (os.take k.toNat)) ((go_ os k).obj)) != 0) == true)) 123 (.pointer (some (((adr A).add (k.toNat * 12)).add 5)))) :: (.gv ((((gi (tf (fun o => sthing o.kind) (os.take k.toNat)) ((go_ os k).obj)) != 0) == true)) 124 (.int .i64 ((go_ os k).obj))) :: (.gv ((((gi (tf (fun o => sthing o.kind) (os.take k.toNat)) ((go_ os k).obj)) != 0) == true)) 125 (.pointer (some ⟨g88, ((go_ os k).obj).toNat, none⟩))) :: (.gv ((((gi (tf (fun o => sthing o.kind) (os.take k.toNat)) ((go_ os k).obj)) != 0) == true)) 126 (.int .i64 (gi (tf (fun o => sthing o.kind) (os.take k.toNat)) ((go_ os k).obj)))) :: (.gv ((((gi (tf (fun o => sthing o.kind) (os.take k.toNat)) ((go_ os k).obj)) != 0) == true)) 127 (.int .i64 (sthing ((go_ os k).kind)))) :: (.gv ((((gi (tf (fun o => sthing o.kind) (os.take k.toNat)) ((go_ os k).obj)) != 0) == true)) 128 (.bool ((gi (tf (fun o => sthing o.kind) (os.take k.toNat)) ((go_ os k).obj)) != (sthing ((go_ os k).kind))))) :: (.eq 129 (.bool (((gi (tf (fun o => sthing o.kind) (os.take k.toNat)) ((go_ os k).obj)) != 0) && ((gi (tf (fun o => sthing o.kind) (os.take k.toNat)) ((go_ os k).obj)) != (sthing ((go_ os k).kind)))))) :: .eq 0 (.slice A os.length c) :: .eq 5 (.pointer (some ⟨g5, 0, none⟩)) :: .eq 6 (.slice (some ⟨g88, 0, none⟩) 101 101) :: .eq 7 (.int .i64 k) :: .eq 8 (.int .i64 (sthing ((go_ os k).kind))) :: .w (Below w26.heap.size w26) :: []) 138 ([23] :: [21] :: [24] :: [1, 2] :: [3] :: [4, 26] :: [0, 5] :: [6, 26] :: [7] :: [8] :: [9, 23] :: [9, 21] :: [9, 24] :: [9, 11, 12] :: [9, 13] :: [9, 14, 26] :: [9, 10, 15] :: [9, 16, 26] :: [9, 25] :: [9, 17, 18] :: [9, 19] :: []) [] [20, 21, 22, 23, 24, 25, 26] hM hN hD (by kernel_rfl) ⟨s0, s5, s6, s7, s8, ⟨Below.refl _ _, below_drew (Below.refl _ _)⟩, trivial⟩ ⟨fun _ _ hb h => below_step h hb, trivial⟩ (fun hgrow => ⟨fun _ _ h => rv rfl (x_move rfl h.1) rfl,
            fun _ _ h => rv rfl (x_move rfl h.1) rfl,
            fun _ _ h => rv rfl (x_move rfl h.1) rfl,
            fun _ _ h => rv rfl (x_index_at rfl h.1 h.2.1 Try.underlying27 sz67 (by omega) (by omega) (RO.ad HR k (by omega) (by omega))) rfl,
            fun _ _ h => rv rfl (x_field rfl h.1 Try.underlying67 rfl sz3 (by decide) rfl) rfl,
            fun _ _ h => rv rfl (x_load1 rfl h.1 Try.underlying3 rfl (RO.cell HR (below_step HB h.2.1) (by omega) (by omega) (j := 5) rfl)) rfl,
            fun _ _ h => rv rfl (x_index_slice rfl h.1 h.2.1 Try.underlying24 sz3 (by omega) (by omega) (ptr1 _ _)) rfl,
            fun _ _ h => rv rfl (x_load1 rfl h.1 Try.underlying3 rfl (IB.at_ (HBX88.below h.2.1) (by omega) (by omega))) rfl,
            fun _ _ h => rv rfl (x_neq rfl h.1 rfl) rfl,
            fun _ _ h => rv rfl (x_move rfl h.1) rfl,
            fun _ _ h => rb rfl rfl h.1 (fun hgt => x_move rfl h.2.1) (fun _ z => z),
            fun _ _ h => rb rfl rfl h.1 (fun hgt => x_move rfl h.2.1) (fun _ z => z),
            fun _ _ h => rb rfl rfl h.1 (fun hgt => x_move rfl h.2.1) (fun _ z => z),
            fun _ _ h => rb rfl rfl h.1 (fun hgt => x_index_at rfl (h.2.1.1 hgt) (h.2.2.1.1 hgt) Try.underlying27 sz67 (by simp at hgt; omega) (by simp at hgt; omega) (RO.ad HR k (by simp at hgt; omega) (by simp at hgt; omega))) (fun _ z => z),
            fun _ _ h => rb rfl rfl h.1 (fun hgt => x_field rfl (h.2.1.1 hgt) Try.underlying67 rfl sz3 (by decide) rfl) (fun _ z => z),
            fun _ _ h => rb rfl rfl h.1 (fun hgt => x_load1 rfl (h.2.1.1 hgt) Try.underlying3 rfl (RO.cell HR (below_step HB h.2.2.1) (by simp at hgt; omega) (by simp at hgt; omega) (j := 5) rfl)) (fun _ z => z),
            fun _ _ h => rb rfl rfl h.1 (fun hgt => x_index_slice rfl (h.2.1.1 hgt) (h.2.2.1.1 hgt) Try.underlying24 sz3 (by simp at hgt; omega) (by simp at hgt; omega) (ptr1 _ _)) (fun _ z => z),
            fun _ _ h => rb rfl rfl h.1 (fun hgt => x_load1 rfl (h.2.1.1 hgt) Try.underlying3 rfl (IB.at_ (HBX88.below h.2.2.1) (by simp at hgt; omega) (by simp at hgt; omega))) (fun _ z => z),
            fun _ _ h => rb rfl rfl h.1 (fun hgt => x_move rfl h.2.1) (fun _ z => z),
            fun _ _ h => rb rfl rfl h.1 (fun hgt => x_neq rfl (h.2.1.1 hgt) (h.2.2.1.1 hgt)) (fun _ z => z),
            fun _ _ h => rv rfl (x_and rfl rfl h.1 (fun hc => h.2.1.1 (beq_iff_eq.2 hc))) rfl, trivial⟩) ?_
          clear s0 s5 s6 s7 s8
          clear hN hD
          rintro a27 w27 hN hD ⟨s129, s0, s5, s6, s7, s8, hGR, -⟩
          replace HB := below_step HB hGR
          replace HCgc := HCgc.below hGR
          replace HBX5 := blk_below HBX5 hGR
          replace HBX88 := HBX88.below hGR
          clear hGR
          show Code.wp _ _ _ _ _
          refine wp_cond (t := ((gi (tf (fun o => sthing o.kind) (os.take k.toNat)) ((go_ os k).obj)) != 0) && ((gi (tf (fun o => sthing o.kind) (os.take k.toNat)) ((go_ os k).obj)) != (sthing ((go_ os k).kind)))) s129 ?_
          rcases Bool.eq_false_or_eq_true (((gi (tf (fun o => sthing o.kind) (os.take k.toNat)) ((go_ os k).obj)) != 0) && ((gi (tf (fun o => sthing o.kind) (os.take k.toNat)) ((go_ os k).obj)) != (sthing ((go_ os k).kind)))) with cd28 | cd28
          · rw [cd28]
            show Code.wp _ _ _ _ _
            have hs := cd28
            refine wp_seq ?_
            refine deedL [.eq 2 (.bool false), .w (Below w27.heap.size w27)] 138 [[]] [] [0, 1] hM hN hD (by kernel_rfl) ⟨⟨Below.refl _ _, below_drew (Below.refl _ _)⟩, trivial⟩ ⟨fun _ _ hb h => below_step h hb, trivial⟩ (fun hgrow => ⟨fun _ _ _ => rv rfl (x_assign rfl rfl) rfl, trivial⟩) ?_
            clear s0 s5 s6 s7 s8 s129
            clear hN hD
            rintro a29 w29 hN hD ⟨s2, hGR, -⟩
            replace HB := below_step HB hGR
            replace HCgc := HCgc.below hGR
            replace HBX5 := blk_below HBX5 hGR
            replace HBX88 := HBX88.below hGR
            clear hGR
            show Code.wp _ _ _ _ _
            refine wp_ret (then_ret (blk_ret (then_ret (then_ret (blk_ret (then_ret ?_))))))
            refine bodyPost_ret (results_single rfl (vtmp s2 .nil)) hD ?_
            exact ⟨by rw [sLogOK_false (fun h => by have := (h.2.2 k hk0 hk2).2; simp at hs; exact this hs)], HB⟩
          · rw [cd28]
            show Code.wp _ _ _ _ _
            have hs : SKind os k := by have := cd28; simp at this; intro h; exact h.2 (this h.1)
            refine wp_skip ?_
            show Code.wp _ _ _ _ _
            refine deedL (.eq 130 (.slice (some ⟨g88, 0, none⟩) 101 101) :: .eq 131 (.slice A os.length c) :: .eq 132 (.int .i64 k) :: .eq 133 (.pointer (some ((adr A).add (k.toNat * 12)))) :: .eq 134 (.pointer (some (((adr A).add (k.toNat * 12)).add 5))) :: .eq 135 (.int .i64 ((go_ os k).obj)) :: .eq 136 (.int .i64 (sthing ((go_ os k).kind))) :: .eq 137 (.pointer (some ⟨g88, ((go_ os k).obj).toNat, none⟩)) :: (.w fun W => IB W g88 (si (tf (fun o => sthing o.kind) (os.take k.toNat)) ((go_ os k).obj) (sthing ((go_ os k).kind))) 3) :: .eq 0 (.slice A os.length c) :: .eq 5 (.pointer (some ⟨g5, 0, none⟩)) :: .eq 6 (.slice (some ⟨g88, 0, none⟩) 101 101) :: .eq 7 (.int .i64 k) :: .eq 8 (.int .i64 (sthing ((go_ os k).kind))) :: (.w (Kx (fun k => k = g88) w27)) :: (.w fun W => IB W g88 (tf (fun o => sthing o.kind) (os.take k.toNat)) 3) :: []) 138 [[11], [9], [12], [1, 2], [3], [4, 14], [13], [0, 5], [7, 6, 15]] [[], [], [], [], [], [], [], [], [15]] [8, 9, 10, 11, 12, 13, 14] hM hN hD (by kernel_rfl) ⟨s0, s5, s6, s7, s8, ⟨Kx.refl _ _, Kx.drew _ _⟩, ⟨HBX88, HBX88.below (below_drew (Below.refl _ _))⟩, trivial⟩ ⟨fun _ _ hb h => h.below hb, fun _ _ hb h => h.step hb, fun _ _ hb h => h.below hb, trivial⟩ (fun hgrow => ⟨fun _ _ h => rv rfl (x_move rfl h.1) rfl,
              fun _ _ h => rv rfl (x_move rfl h.1) rfl,
              fun _ _ h => rv rfl (x_move rfl h.1) rfl,
              fun _ _ h => rv rfl (x_index_at rfl h.1 h.2.1 Try.underlying27 sz67 (by omega) (by omega) (RO.ad HR k (by omega) (by omega))) rfl,
              fun _ _ h => rv rfl (x_field rfl h.1 Try.underlying67 rfl sz3 (by decide) rfl) rfl,
              fun _ _ h => rv rfl (x_load1 rfl h.1 Try.underlying3 rfl (RO.cell HR (Kx.below HB h.2.1 HB.size (fun k e => by subst e; exact lg88)) (by omega) (by omega) (j := 5) rfl)) rfl,
              fun _ _ h => rv rfl (x_move rfl h.1) rfl,
              fun _ _ h => rv rfl (x_index_slice rfl h.1 h.2.1 Try.underlying24 sz3 (by omega) (by omega) (ptr1 _ _)) rfl,
              ?_, trivial⟩) ?_
            · rintro a_ W ⟨h7, h6, h15, -⟩
              exact rstoreI rfl rfl h7 h6 sz3 h15 (by omega) (by omega) (IB.set h15 _ _) ⟨fun h => h.set rfl _ _, trivial⟩
            clear s0 s5 s6 s7 s8 s129
            clear hN hD
            rintro a30 w30 hN hD ⟨MBX88, s0, s5, s6, s7, s8, hGR, -⟩
            have NB := Kx.below HB hGR HB.size (fun k e => by subst e; exact lg88)
            have NCgc : IB w30 gc (cnt os) 3 := blk_kx HCgc hGR (fun e => n_gc_g88 e)
            have NBX5 := blk_kx HBX5 hGR (fun e => (blk_neT HBX5 HBX88 rfl) e)
            replace HB := NB
            replace HCgc := NCgc
            replace HBX5 := NBX5
            clear NB NCgc NBX5
            replace HBX88 := MBX88
            clear MBX88
            clear hGR
            show Code.wp _ _ _ _ _
            refine deedL [.eq 93 (.int .i64 k), .eq 94 (.int .i64 (k + 1)), .eq 7 (.int .i64 (k + 1)), .eq 0 (.slice A os.length c), .eq 5 (.pointer (some ⟨g5, 0, none⟩)), .eq 6 (.slice (some ⟨g88, 0, none⟩) 101 101), .eq 7 (.int .i64 k), .w (Below w30.heap.size w30)] 138 [[6], [0], [1]] [[], [], [6]] [2, 3, 4, 5, 7] hM hN hD (by kernel_rfl) ⟨s0, s5, s6, s7, ⟨Below.refl _ _, below_drew (Below.refl _ _)⟩, trivial⟩ ⟨fun _ _ hb h => below_step h hb, trivial⟩ (fun hgrow => ⟨fun _ _ h => rv rfl (x_move rfl h.1) rfl,
              fun _ _ h => rv rfl (x_add' rfl h.1 rfl (by omega)) rfl,
              fun _ _ h => rv rfl (x_assign rfl h.1) rfl, trivial⟩) ?_
            clear s0 s5 s6 s7 s8
            clear hN hD
            rintro a31 w31 hN hD ⟨s7, s0, s5, s6, hGR, -⟩
            replace HB := below_step HB hGR
            replace HCgc := HCgc.below hGR
            replace HBX5 := blk_below HBX5 hGR
            replace HBX88 := HBX88.below hGR
            clear hGR
            show ∃ m, m < n_20 ∧ _
            exact ⟨_, (by omega), ⟨(k + 1), hN, hD, s0, s5, s6, s7, HB, HCgc, HBX5, (by rw [take_snoc hk0 hk2, tf_snoc]; exact HBX88), (by omega), (by omega), (by intro j h0 h1; by_cases e : j = k; (subst e; exact ⟨hc, hs⟩); exact hk j h0 (by omega)), rfl⟩⟩
      · rw [cd22]
        show Code.wp _ _ _ _ _
        have pd22 := of_decide_eq_false cd22
        refine wp_exit (then_exit (then_exit (at_exit ?_)))
        show Code.wp _ _ _ _ _
        refine wp_seq ?_
        refine deedL [.eq 2 (.bool true), .w (Below w21.heap.size w21)] 138 [[]] [] [0, 1] hM hN hD (by kernel_rfl) ⟨⟨Below.refl _ _, below_drew (Below.refl _ _)⟩, trivial⟩ ⟨fun _ _ hb h => below_step h hb, trivial⟩ (fun hgrow => ⟨fun _ _ _ => rv rfl (x_assign rfl rfl) rfl, trivial⟩) ?_
        clear s0 s5 s6 s7 s92
        clear hN hD
        rintro a32 w32 hN hD ⟨s2, hGR, -⟩
        replace HB := below_step HB hGR
        replace HCgc := HCgc.below hGR
        replace HBX5 := blk_below HBX5 hGR
        replace HBX88 := HBX88.below hGR
        clear hGR
        show Code.wp _ _ _ _ _
        refine wp_ret ?_
        refine bodyPost_ret (results_single rfl (vtmp s2 .nil)) hD ?_
        exact ⟨by rw [sLogOK_true ⟨by omega, hst, fun j h0 h1 => hk j h0 (by omega)⟩], HB⟩
end Go.Proofs.Ytideafkiaipnoaa.Q
